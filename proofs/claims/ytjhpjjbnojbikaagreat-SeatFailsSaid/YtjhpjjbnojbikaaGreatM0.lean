/- Definitions and lemmas of the proof, without a condition of their own. -/
import Derived.WalkKit
import Derived.Orders
import Derived.Maps.AppendAt
import Derived.Lib.ItoaMem
import Derived.Lib.ItoaLen
import Derived.Lib.LaidTab
import Derived.Sort.Grow
import Derived.Lib.AppendStr
import Derived.Lib.UnsafeStr
import Derived.Lib.Builder
import Derived.MapKept
import Derived.Laws.StructEq
import Derived.Lib.Join
import Derived.Lib.JoinLaws
import Derived.Deep.Slices
import Derived.OpenShut
import Derived.SizedLaws
import Derived.Laws.MakeOwn
import Derived.Laws.Slices
import Derived.ArgAppend
import Derived.Deep.Upon
open Bool renaming and_eq_true→apP
open Go.Result renaming andThen_ok→apG
open Go.Sem renaming run_bind→apH
open List renaming cons_append→apC,flatten_cons→apB,getElem?_map→apR,getElem?_take_of_lt→apO,length_append→apv,length_cons→apw,length_drop→apW,length_take→apL,map_append→apJ,mem_append→apK,mem_cons→apF,mem_of_getElem?→apA,nil_append→apD
open Nat renaming blt_eq→apV,eq_of_beq_eq_true→apz,le_refl→apM
open Option renaming map_eq_some_iff→apE
open Option.some renaming inj→apT,injEq→apQ
namespace Go.Eng
open Go Go.RowKit
abbrev re:=Nat→Option Obj
structure GS where
 M:re
 os:Os
 tape:Nat→Question→Nat
 output:Array (Nat×ByteArray)
def GS.of (w:World):GS:=⟨fun b=>w.heap[b]?,w.os,w.tape,w.output⟩
structure GS.Le (G G':GS):Prop where
 os:G'.os=G.os
 tape:G'.tape=G.tape
 output:G'.output=G.output
 mem:∀b o,G.M b=some o→G'.M b=some o
theorem GS.Le.refl (G:GS):G.Le G:=⟨rfl,rfl,rfl,fun _ _ h=>h⟩
theorem GS.Le.trans {a b c:GS} (h:a.Le b) (k:b.Le c):a.Le c:=
 ⟨k.os.trans h.os,k.tape.trans h.tape,k.output.trans h.output,fun x o e=>k.mem x o (h.mem x o e)⟩
abbrev bh:=List (Nat×Obj)
structure Holds (G:GS) (w:World) (H:List bh):Prop where
 os:w.os=G.os
 tape:w.tape=G.tape
 output:w.output=G.output
 mem:∀b o,G.M b=some o→w.heap[b]?=some o
 own:∀p∈H.flatten,w.heap[p.1]?=some p.2
 nodup:(H.flatten.map (·.1)).Nodup
 apart:∀p∈H.flatten,G.M p.1=none
theorem cg {w:World} {b:Nat} {o:Obj} (h:w.heap[b]?=some o):b<w.heap.size:=by
 rcases Nat.lt_or_ge b w.heap.size with hlt|hge
 ·exact hlt
 ·rw[Array.getElem?_eq_none hge]at h;cases h
theorem Holds.start (w:World):Holds (GS.of w) w []:=
 ⟨rfl,rfl,rfl,fun _ _ h=>h,fun _ h=>by simp at h,by simp,fun _ h=>by simp at h⟩
theorem Holds.below {W w:World} {G:GS} {H:List bh} (hg:(GS.of W).Le G) (h:Holds G w H):Below W.heap.size W w:=by
 have hb:∀k,k<W.heap.size→w.heap[k]?=W.heap[k]?:=by
  intro k hk
  have e:W.heap[k]?=some W.heap[k]:=Array.getElem?_eq_getElem hk
  rw[e]
  exact h.mem k _ (hg.mem k _ e)
 refine⟨h.os.trans hg.os,h.tape.trans hg.tape,h.output.trans hg.output,?_,hb⟩
 rcases Nat.eq_zero_or_pos W.heap.size with h0|h0
 ·omega
 ·have hk:=hb (W.heap.size - 1) (by omega)
  rw[Array.getElem?_eq_getElem (show W.heap.size - 1<W.heap.size by omega)]at hk
  have:=cg hk
  omega
theorem Holds.drew {G:GS} {w:World} {H:List bh} (h:Holds G w H):Holds G w.drew H:=
 ⟨h.os,h.tape,h.output,h.mem,h.own,h.nodup,h.apart⟩
theorem Holds.drawn {G:GS} {w:World} {H:List bh} (h:Holds G w H):Holds G {w with drawn:=w.drawn+1} H:=
 ⟨h.os,h.tape,h.output,h.mem,h.own,h.nodup,h.apart⟩
theorem Holds.perm {G:GS} {w:World} {H H':List bh} (h:Holds G w H) (p:H'.flatten.Perm H.flatten):Holds G w H':=
 ⟨h.os,h.tape,h.output,h.mem,fun x hx=>h.own x (p.mem_iff.1 hx),((p.map (·.1)).nodup_iff).2 h.nodup,fun x hx=>h.apart x (p.mem_iff.1 hx)⟩
theorem Holds.drop {G:GS} {w:World} {c:bh} {H:List bh} (h:Holds G w (c::H)):Holds G w H:=by
 refine⟨h.os,h.tape,h.output,h.mem,fun x hx=>h.own x (by simp only[apB,apK];exact .inr hx),?_,fun x hx=>h.apart x (by simp only[apB,apK];exact .inr hx)⟩
 have:=h.nodup
 simp only[apB,apJ]at this
 exact(List.nodup_append.1 this).2.1
theorem Holds.alloc {G:GS} {w:World} {H:List bh} (h:Holds G w H) (o:Obj):Holds G (w.alloc o) ([(w.heap.size,o)]::H):=by
 have hlt:∀p∈H.flatten,p.1<w.heap.size:=fun p hp=>cg (h.own p hp)
 refine⟨h.os,h.tape,h.output,fun b o' hb=> ?_,fun p hp=> ?_,?_,fun p hp=> ?_⟩
 ·have:=h.mem b o' hb
  rw[Below.heap_alloc _ _ _ (cg this)];exact this
 ·simp only[apB,apC,apD,apF]at hp
  rcases hp with rfl|hp
  ·exact heap_alloc_new w o
  ·rw[Below.heap_alloc _ _ _ (hlt p hp)];exact h.own p hp
 ·simp only[apB,apC,apD,List.map_cons,List.nodup_cons]
  refine⟨fun hm=> ?_,h.nodup⟩
  obtain⟨p,hp,e⟩:=List.mem_map.1 hm
  have:=hlt p hp
  omega
 ·simp only[apB,apC,apD,apF]at hp
  rcases hp with rfl|hp
  ·rcases hM:G.M w.heap.size with _|o'
   ·rfl
   ·have:=cg (h.mem _ _ hM);omega
  ·exact h.apart p hp
theorem Holds.turn {G:GS} {w w':World} {c c':bh} {H:List bh} (h:Holds G w (c::H)) (hos:w'.os=w.os) (ht:w'.tape=w.tape) (ho:w'.output=w.output)
  (hk:c'.map (·.1)=c.map (·.1)) (hel:∀b,b<w.heap.size→b∉c.map (·.1)→w'.heap[b]?=w.heap[b]?) (hc:∀p∈c',w'.heap[p.1]?=some p.2):Holds G w' (c'::H):=by
 have hn:=h.nodup
 simp only[apB,apJ]at hn
 have hd:=(List.nodup_append.1 hn).2.2
 refine⟨hos.trans h.os,ht.trans h.tape,ho.trans h.output,fun b o hb=> ?_,fun p hp=> ?_,?_,fun p hp=> ?_⟩
 ·have hw:=h.mem b o hb
  rw[hel b (cg hw)];exact hw
  intro hm
  obtain⟨p,hp,rfl⟩:=List.mem_map.1 hm
  have:=h.apart p (by simp only[apB,apK];exact .inl hp)
  rw[this]at hb;cases hb
 ·simp only[apB,apK]at hp
  rcases hp with hp|hp
  ·exact hc p hp
  ·have hw:=h.own p (by simp only[apB,apK];exact .inr hp)
   rw[hel p.1 (cg hw)];exact hw
   intro hm
   exact hd _ hm _ (List.mem_map_of_mem hp) rfl
 ·simp only[apB,apJ,hk];exact hn
 ·simp only[apB,apK]at hp
  rcases hp with hp|hp
  ·have:p.1∈c.map (·.1):=hk▸List.mem_map_of_mem hp
   obtain⟨q,hq,e⟩:=List.mem_map.1 this
   rw[←e];exact h.apart q (by simp only[apB,apK];exact .inl hq)
  ·exact h.apart p (by simp only[apB,apK];exact .inr hp)
def GS.add (G:GS) (c:bh):GS:={G with M:=fun b=>match G.M b with|some o=>some o|none=>(c.find? (·.1==b)).map (·.2)}
theorem uT:∀(c:bh),(c.map (·.1)).Nodup→∀p∈c,c.find? (·.1==p.1)=some p
 |[],_,_,h=>by simp at h
 |q::c,hn,p,h=>by
  simp only[List.map_cons,List.nodup_cons]at hn
  simp only[List.find?_cons]
  rcases apF.1 h with rfl|h
  ·simp
  ·have:(q.1==p.1)=false:=by
    rw[beq_eq_false_iff_ne]
    intro e
    exact hn.1 (e▸List.mem_map_of_mem h)
   rw[this]
   exact uT c hn.2 p h
theorem Holds.toG {G:GS} {w:World} {c:bh} {H:List bh} (h:Holds G w (c::H)):G.Le (G.add c)∧Holds (G.add c) w H∧∀p∈c,(G.add c).M p.1=some p.2:=by
 have hn:=h.nodup
 simp only[apB,apJ]at hn
 obtain⟨hn1,_,hd⟩:=List.nodup_append.1 hn
 have hM:∀p∈c,(G.add c).M p.1=some p.2:=by
  intro p hp
  have:=h.apart p (by simp only[apB,apK];exact .inl hp)
  simp only[GS.add,this,uT c hn1 p hp,Option.map_some]
 refine⟨⟨rfl,rfl,rfl,fun b o hb=>by simp[GS.add,hb]⟩,⟨h.os,h.tape,h.output,fun b o hb=> ?_,h.drop.own,h.drop.nodup,fun p hp=> ?_⟩,hM⟩
 ·rcases e:G.M b with _|o'
  ·simp only[GS.add,e,apE]at hb
   obtain⟨p,hf,rfl⟩:=hb
   have hm:=List.mem_of_find?_eq_some hf
   have he:p.1=b:=by simpa using List.find?_some hf
   rw[←he]
   exact h.own p (by simp only[apB,apK];exact .inl hm)
  ·have:o'=o:=by simpa[GS.add,e] using hb
   subst this
   exact h.mem b _ e
 ·have h1:=h.drop.apart p hp
  simp only[GS.add,h1,Option.map_eq_none_iff,List.find?_eq_none]
  intro q hq
  simp only[beq_iff_eq]
  intro e
  exact hd _ (List.mem_map_of_mem hq) _ (List.mem_map_of_mem hp) e
def lk:List (Nat×Value)→Nat→Option Value
 |[],_=>none
 |(k,v)::r,t=>bif Nat.beq t k then some v else lk r t
structure SF (N:Nat) (a:Act) (L:List (Nat×Value)):Prop where
 size:a.tmps.size=N
 defers:a.defers=[]
 at_:∀t v,lk L t=some v→a.tmps.getD t undef=v
def opv (L:List (Nat×Value)):Operand→Option Value
 |.tmp t=>lk L t
 |.const v=>some v
 |.global g=>some (.pointer (some ⟨g,0,none⟩))
 |.func f=>some (.func (.func f) #[] #[])
theorem SF.ev {N:Nat} {a:Act} {L:List (Nat×Value)} (s:SF N a L) {x:Operand} {v:Value} (h:opv L x=some v):a.eval x=v:=by
 cases x with
 |tmp t=>exact s.at_ t v h
 |const c=>simpa[opv,Act.eval] using h
 |global g=>simpa[opv,Act.eval] using h
 |func f=>simpa[opv,Act.eval] using h
theorem SF.put {N:Nat} {a:Act} {L:List (Nat×Value)} (s:SF N a L) (d:Nat) (hd:Nat.blt d N=true) (v:Value):SF N (a.put (some d) v) ((d,v)::L):=by
 have hd':d<N:=by simpa[apV] using hd
 refine⟨by simpa[Act.put] using s.size,s.defers,fun t u h=> ?_⟩
 simp only[Act.put]
 by_cases e:t=d
 ·subst e
  simp only[lk,Nat.beq_refl,cond_true,apQ]at h
  subst h
  have:=s.size
  simp[Array.getD,this,hd']
 ·have hb:Nat.beq t d=false:=by
   cases hb:Nat.beq t d with
   |false=>rfl
   |true=>exact absurd (apz hb) e
  simp only[lk,hb,cond_false]at h
  rw[←s.at_ t u h]
  simp only[Array.getD,Array.size_setIfInBounds]
  split
  ·simp only[Array.getInternal_eq_getElem]
   rw[Array.getElem_setIfInBounds_ne]
   exact fun e'=>e e'.symm
  ·rfl
theorem SF.sub {N:Nat} {a:Act} {L L':List (Nat×Value)} (s:SF N a L) (h:∀p∈L',lk L p.1=some p.2):SF N a L':=by
 refine⟨s.size,s.defers,fun t v hv=>s.at_ t v ?_⟩
 have key:∀K:List (Nat×Value),lk K t=some v→∃p∈K,p.1=t∧p.2=v:=by
  intro K
  induction K with
  |nil=>intro e;simp[lk]at e
  |cons p K ih=>
   intro e
   obtain⟨k,u⟩:=p
   cases hb:Nat.beq t k with
   |true=>
    simp only[lk,hb,cond_true,apQ]at e
    exact⟨(k,u),by simp,(apz hb).symm,e⟩
   |false=>
    simp only[lk,hb,cond_false]at e
    obtain⟨q,hq,e1,e2⟩:=ih e
    exact⟨q,by simp[hq],e1,e2⟩
 obtain⟨p,hp,rfl,rfl⟩:=key L' hv
 exact h p hp
theorem all_cons {p:(Nat×Value)→Prop} {x:Nat×Value} {l:List (Nat×Value)} (h:p x) (hl:∀y∈l,p y):∀y∈x::l,p y:=by
 intro y hy
 rcases apF.1 hy with rfl|hy
 ·exact h
 ·exact hl y hy
theorem SF.enter (N:Nat) (args:List Value) (h:args.length≤N):
  SF N {tmps:=args.toArray++Array.replicate (N - args.length) undef,defers:=[]} (args.zipIdx.map fun p=>(p.2,p.1)):=by
 refine⟨by simp;omega,rfl,?_⟩
 intro t v hv
 have key:∀(l:List Value) (k:Nat),lk ((l.zipIdx k).map fun p=>(p.2,p.1)) t=some v→k≤t∧l[t - k]?=some v:=by
  intro l
  induction l with
  |nil=>intro k e;simp[lk]at e
  |cons x l ih=>
   intro k e
   simp only[List.zipIdx_cons,List.map_cons,lk]at e
   cases hb:Nat.beq t k with
   |true=>
    have:=apz hb
    subst this
    simp only[hb,cond_true,apQ]at e
    subst e
    simp
   |false=>
    simp only[hb,cond_false]at e
    obtain⟨h1,h2⟩:=ih (k+1) e
    refine⟨by omega,?_⟩
    rw[show t - k=(t - (k+1))+1 by omega,List.getElem?_cons_succ]
    exact h2
 obtain⟨_,h2⟩:=key args 0 hv
 simp only[Nat.sub_zero]at h2
 obtain⟨hlt,rfl⟩:=List.getElem?_eq_some_iff.1 h2
 simp only[Array.getD,Array.size_append,List.size_toArray,Array.size_replicate]
 rw[dif_pos (by omega)]
 simp[Array.getElem_append,hlt]
section
variable {P:Program} {ops:Array Oper} {Q:Exit→Act→World→Prop} {K:Act→World→Prop} {a:Act} {w:World} {rest:List Oper}
theorem pn (m n:Int):(m==n)=decide (m=n):=rfl
theorem ah1 {o:Oper} {v:Value} {w':World} (hr:(execOp a.eval o).run P w= .ok (.value v) w') (k:K (a.put o.dst v) w'):o.wp P a w K Q:=by
 unfold Oper.wp;rw[hr];exact k
theorem anz {o:Oper} {w':World} (hr:(execOp a.eval o).run P w= .ok .skip w') (k:K (a.put o.dst undef) w'):o.wp P a w K Q:=by
 unfold Oper.wp;rw[hr];exact k
theorem YM {o:Oper} {f:FuncId} {args:Array Value} {w':World} (hr:(execOp a.eval o).run P w= .ok (.enter f args) w')
  (hc:Calls P f args w' fun e w''=>∃v,e= .returned v∧K (a.put o.dst v) w''):o.wp P a w K Q:=by
 unfold Oper.wp;rw[hr]
 exact hc.mono fun e w'' ⟨v,he,hk⟩=>by subst he;exact hk
section
variable {dst:Option Tmp} {ty:TypeId} {pos:String} {af:Array Edge} {g:Option (Nat×Bool)}
section
variable {t t2:TypeId} {x y:Operand} {kd:IntKind} {m n z:Int} {b:Bool}
end
abbrev S (l:List UInt8):Value:=.string ⟨l.toArray⟩
section
variable {t t2:TypeId} {x y:Operand} {l m:List UInt8}
theorem pb (l:List UInt8):ByteArray.toList ⟨l.toArray⟩=l:=by rw[ByteArray.toList_eq]
theorem fC (b:Builtin) (args:Array Operand) (ta:Array TypeId) (dst:Option Tmp) (ty:TypeId) (pos:String) (af:Array Edge) (g:Option (Nat×Bool)):
  (execOp a.eval ⟨dst,.call {callee:=.builtin b,args:=args,argTypes:=ta},ty,pos,af,g⟩).run P w=
   (builtin b ta ty (args.map fun|.const _=>true|_=>false) (args.map a.eval)).run P w:=by
 simp only[execOp,resolve,apH,Sem.run_pure,apG,invoke]
 rfl
end
def EX (P:Program) (t i:Nat):Option Nat:=
 match P.underlying t with
 |some (.struct fs)=>match fs[i]? with
  |some f=>match P.info? f.type with
   |some inf=>bif Nat.beq inf.size 0 then none else some f.offset
   |none=>none
  |none=>none
 |_=>none
def cA (P:Program) (t:Nat):Option Nat:=(P.info? t).map (·.size)
def kC (P:Program) (t:Nat):Option Bool:=match P.underlying t with|some (.struct _)|some (.array ..)=>some true|some _=>some false|none=>none
theorem run_sizeOf {t n:Nat} (h:cA P t=some n) (w:World):(sizeOf t:Sem Nat).run P w= .ok n w:=by
 unfold cA at h
 rcases hi:P.info? t with _|i
 ·simp[hi]at h
 ·simp only[hi,Option.map_some,apQ]at h
  subst h
  simp[sizeOf,typeInfo,hi]
theorem run_isAgg {t:Nat} {b:Bool} (h:kC P t=some b) (w:World):(isAgg t:Sem Bool).run P w= .ok b w:=by
 unfold kC at h
 rcases hu:P.underlying t with _|d
 ·simp[hu]at h
 ·rw[hu]at h
  cases d<;>simp at h<;>subst h<;>simp[isAgg,run_underlying hu]
theorem de (b o n:Nat):Addr.add ⟨b,o,none⟩ n=⟨b,o+n,none⟩:=by
 unfold Addr.add
 split
 ·rename_i h;subst h;rfl
 ·rfl
theorem AL {t i n b o:Nat} {fs:Array Field} {f:Field} (ht:P.underlying t=some (.struct fs)) (hf:fs[i]?=some f) (h:EX P t i=some n):
  (fieldPlace ⟨b,o,none⟩ f:Sem Addr).run P w= .ok ⟨b,o+n,none⟩ w:=by
 unfold EX at h
 simp only[ht,hf]at h
 rcases hi:P.info? f.type with _|inf
 ·simp[hi]at h
 ·simp only[hi]at h
  cases hz:Nat.beq inf.size 0 with
  |true=>simp[hz]at h
  |false=>
   simp only[hz,cond_false,apQ]at h
   subst h
   have hne:¬inf.size=0:=fun e=>by rw[e]at hz;simp at hz
   have hs:cA P f.type=some inf.size:=by simp[cA,hi]
   simp only[fieldPlace,apH,run_sizeOf hs,apG,if_neg hne,Sem.run_pure,de]
section
variable {x y:Operand}
def blk:Option Addr→Nat|some p=>p.block|none=>0
def AY:Option Addr→Nat|some p=>p.off|none=>0
def ou (M:re) (b o:Nat):Option Value:=match M b with|some (.cells c _ _)=>c[o]?|_=>none
theorem _root_.Go.Eng.Holds.cellM {G:GS} {H:List bh} (h:Holds G w H) {b o:Nat} {v:Value} (hm:ou G.M b o=some v):w.cell? ⟨b,o,none⟩=some v:=by
 unfold ou at hm
 rcases hM:G.M b with _|ob
 ·simp[hM]at hm
 ·have:=h.mem b ob hM
  rw[hM]at hm
  cases ob<;>simp at hm
  simp[World.cell?,this,hm]
theorem run_loadCells (b o:Nat):∀(cs:List Value) (i:Nat) (acc:Array Value),(∀j v,cs[j]?=some v→w.cell? ⟨b,o+(i+j),none⟩=some v)→
  (loadCellsFrom ⟨b,o,none⟩ i cs.length acc).run P w= .ok (acc++cs.toArray) w
 |[],i,acc,_=>by simp[loadCellsFrom]
 |c::cs,i,acc,h=>by
  have h0:=h 0 c rfl
  simp only[Nat.add_zero]at h0
  have ih:=run_loadCells b o cs (i+1) (acc.push c) (fun j v hv=>by have:=h (j+1) v (by simpa using hv);rw[show i+1+j=i+(j+1) by omega];exact this)
  simp only[apw,loadCellsFrom,apH,de,load,Sem.run,h0,apG,ih]
  simp
def MRow (M:re) (b o:Nat) (cs:List Value):Prop:=∀j v,cs[j]?=some v→ou M b (o+j)=some v
theorem abQ {G G':GS} (h:G.Le G') {b o:Nat} {v:Value} (hm:ou G.M b o=some v):ou G'.M b o=some v:=by
 unfold ou at hm ⊢
 rcases e:G.M b with _|ob
 ·simp[e]at hm
 ·rw[h.mem b ob e];rw[e]at hm;exact hm
theorem MRow.mono {G G':GS} (h:G.Le G') {b o:Nat} {cs:List Value} (hm:MRow G.M b o cs):MRow G'.M b o cs:=fun j v hv=>abQ h (hm j v hv)
theorem MRow.sub {M:re} {b o:Nat} {cs ds:List Value} (h:MRow M b o cs) (i:Nat) (hd:(cs.drop i).take ds.length=ds):MRow M b (o+i) ds:=by
 intro j v hv
 rw[Nat.add_assoc]
 refine h (i+j) v ?_
 rw[←hd]at hv
 have hlt:j<ds.length:=by
  rcases Nat.lt_or_ge j ds.length with h1|h1
  ·exact h1
  ·rw[List.getElem?_take_eq_none h1]at hv;cases hv
 rw[apO hlt,List.getElem?_drop]at hv
 exact hv
def rW (P:Program) (t:Nat):Option (Array Value):=(P.info? t).bind fun i=>i.zero.map (·.cells)
theorem KK {t:Nat} {cs:Array Value} (h:rW P t=some cs) (w:World):∃z,(zeroValue t:Sem Value).run P w= .ok z w∧z.cells=cs:=by
 unfold rW at h
 rcases hi:P.info? t with _|i
 ·simp[hi]at h
 ·simp only[hi,Option.bind_some,apE]at h
  obtain⟨z,hz,rfl⟩:=h
  exact⟨z,by simp[zeroValue,typeInfo,hi,hz],rfl⟩
def gV (c:Array Value) (o:Nat):List Value→Array Value
 |[]=>c
 |v::r=>gV (c.setIfInBounds o v) (o+1) r
theorem rX:∀(vs:List Value) (c:Array Value) (o:Nat),(gV c o vs).size=c.size
 |[],_,_=>rfl
 |v::r,c,o=>by rw[gV,rX r];simp
theorem _root_.Go.Eng.Holds.setCell {G:GS} {F:List bh} {c0:bh} {j b:Nat} {c:Array Value} {T:TypeId} (h:Holds G w (c0::F)) (hj:c0[j]?=some (b,.cells c T (0,0))) (o:Nat) (v:Value):
  Holds G (w.setCell ⟨b,o,none⟩ v) (c0.set j (b,.cells (c.setIfInBounds o v) T (0,0))::F):=by
 obtain⟨hlt,hj'⟩:=List.getElem?_eq_some_iff.1 hj
 have hown:w.heap[b]?=some (.cells c T (0,0)):=h.own (b,.cells c T (0,0)) (by simp only[apB,apK];exact .inl (hj'▸List.getElem_mem hlt))
 have hkeys:(c0.set j (b,Obj.cells (c.setIfInBounds o v) T (0,0))).map (·.1)=c0.map (·.1):=by
  rw[List.map_set]
  refine List.ext_getElem? fun i=> ?_
  rw[List.getElem?_set]
  split
  ·rename_i e;subst e
   simp[hlt,hj']
  ·rfl
 have hself:(w.setCell ⟨b,o,none⟩ v).heap[b]?=some (.cells (c.setIfInBounds o v) T (0,0)):=by
  simp[World.setCell,Array.getElem?_modify,hown]
 refine h.turn rfl rfl rfl hkeys (fun k _ hk=>Below.heap_setCell _ _ _ _ ?_) (fun p hp=> ?_)
 ·intro e
  exact hk (e▸List.mem_map.2 ⟨(b,.cells c T (0,0)),hj'▸List.getElem_mem hlt,rfl⟩)
 ·rcases List.mem_or_eq_of_mem_set hp with hp|rfl
  ·by_cases e:p.1=b
   ·rw[e,hself]
    have hn:=h.nodup
    simp only[apB,apJ]at hn
    have hn1:((c0.set j (b,Obj.cells (c.setIfInBounds o v) T (0,0))).map (·.1)).Nodup:=hkeys▸(List.nodup_append.1 hn).1
    have hx:=uT _ hn1 p (by assumption)
    have hy:=uT _ hn1 (b,Obj.cells (c.setIfInBounds o v) T (0,0)) (List.mem_iff_getElem?.2 ⟨j,by rw[List.getElem?_set];simp[hlt]⟩)
    rw[e]at hx
    simp only at hy
    rw[hx]at hy
    injection hy with hy
    rw[hy]
   ·rw[Below.heap_setCell _ _ _ _ e]
    exact h.own p (by simp only[apB,apK];exact .inl hp)
  ·exact hself
theorem yp:∀(vs:List Value) (c:Array Value) (o:Nat),o+vs.length≤c.size→(gV c o vs).toList=c.toList.take o++vs++c.toList.drop (o+vs.length)
 |[],c,o,_=>by simp[gV]
 |v::r,c,o,h=>by
  simp only[apw]at h
  have hlt:o<c.toList.length:=by simp;omega
  rw[gV,yp r _ _ (by simp;omega),Array.toList_setIfInBounds]
  have e1:(c.toList.set o v).take (o+1)=c.toList.take o++[v]:=by
   rw[List.take_add_one,List.take_set_of_le (apM _),List.getElem?_set_self hlt];rfl
  rw[e1,List.drop_set_of_lt (by omega)]
  simp only[apw,List.append_assoc,List.singleton_append,apC]
  rw[show o+1+r.length=o+(r.length+1) by omega]
  rfl
def QQ (P:Program) (f:Nat):Option (Bool×Bool):=(P.funcs[f]?).map fun fn=>(fn.name== "runtime.NumGoroutine",fn.body.isNone)
theorem DI {f:Nat} (h:QQ P f=some (false,false)) (args:Array Value) (w:World):(callFunc f args).run P w= .ok (.enter f args) w:=by
 unfold QQ at h
 rcases hf:P.funcs[f]? with _|fn
 ·simp[hf]at h
 ·simp only[hf,Option.map_some,apQ,Prod.mk.injEq]at h
  have h1:fn.name≠ "runtime.NumGoroutine" :=by simpa using h.1
  have h2:fn.body≠none:=by intro e;rw[e]at h;simp at h
  simp[callFunc,hf,h1,h2]
end
end
end
def Aq (D:Nat→Bool) (i:Nat):Nat→Bool:=fun j=>bif Nat.beq j i then true else D j
theorem ac5 (D:Nat→Bool) (i:Nat):Aq D i i=true:=by simp[Aq]
theorem YA (D:Nat→Bool) {i j:Nat} (h:j≠i):Aq D i j=D j:=by
 have hb:Nat.beq j i=false:=by
  cases hb:Nat.beq j i with
  |false=>rfl
  |true=>exact absurd (apz hb) h
 simp[Aq,hb]
def aak (o:Oper):List Nat:=o.after.toList.filterMap fun e=>if Region.binds .any e then some e.on else none
structure Ready (l:List Oper) (D:Nat→Bool) (i:Nat):Prop where
 todo:D i=false
 done:∀o,l[i]?=some o→∀j∈aak o,D j=true
 closed:∀k o,l[k]?=some o→D k=true→∀j∈aak o,D j=true
def WQ (P:Program) (l:List Oper) (Q:Exit→Act→World→Prop) (J:(Nat→Bool)→Act→World→Prop) (i:Nat) (o:Oper):Prop:=
 ∀D a w,Ready l D i→J D a w→if Region.wanted o (yielded l.toArray a.tmps)=true then o.wp P a w (J (Aq D i)) Q∨(o.asks P a w∧LetsOut Q) else J (Aq D i) (a.put o.dst undef) w
def Steps (P:Program) (l:List Oper) (Q:Exit→Act→World→Prop) (J:(Nat→Bool)→Act→World→Prop):Nat→List Oper→Prop
 |_,[]=>True
 |i,o::r=>WQ P l Q J i o∧Steps P l Q J (i+1) r
section
variable {P:Program} {Q:Exit→Act→World→Prop} {a:Act} {w:World} {l:List Oper} {J:(Nat→Bool)→Act→World→Prop}
theorem Steps.at:∀(r:List Oper) (i:Nat),Steps P l Q J i r→∀k o,r[k]?=some o→WQ P l Q J (i+k) o
 |[],_,_,_,_,h=>by simp at h
 |o::r,i,hs,0,o',h=>by
  simp only[List.getElem?_cons_zero,apQ]at h
  subst h
  exact hs.1
 |o::r,i,hs,k+1,o',h=>by
  have:=Steps.at r (i+1) hs.2 k o' (by simpa using h)
  rw[show i+(k+1)=i+1+k by omega];exact this
end
section
variable {P:Program} {ops:Array Oper} {Q:Exit→Act→World→Prop} {K:Act→World→Prop} {a:Act} {w:World} {fn:Func} {R:Ending→World→Prop}
theorem aca {N t u:Nat} {L:List (Nat×Value)} {v z:Value} (s:SF N a L) (hr:fn.results= #[.tmp t,.tmp u]) (hv:lk L t=some v) (hz:lk L u=some z) (h:R (.returned (.tuple #[v,z])) w):bodyPost P fn R .ret a w:=
 ⟨s.defers,_,by rw[results_tmp2 hr,s.at_ t v hv,s.at_ u z hz],h⟩
theorem enter {f:FuncId} {c:Code} {args:List Value} {N:Nat} {L:List (Nat×Value)} (hL:args.zipIdx.map (fun p=>(p.2,p.1))=L) (hf:P.funcs[f]?=some fn) (hb:fn.body=some c) (hN:fn.ntmps=N) (hl:Nat.ble args.length N=true)
  (h:∀a,SF N a L→c.wp P (bodyPost P fn R) a w):Calls P f args.toArray w R:=by
 subst hN
 subst hL
 refine calls_of_wp hf hb ?_
 refine h _ ?_
 have:=SF.enter fn.ntmps args (by simpa using Nat.le_of_ble_eq_true hl)
 simpa using this
end
theorem Uk {z:Int} (h1: -9223372036854775808≤z) (h2:z≤9223372036854775807):IntKind.i64.wrap z=z:=IntWalk.i64_in z ⟨h1,h2⟩
theorem Ul {z:Int} (h1: -2147483648≤z) (h2:z≤2147483647):IntKind.i32.wrap z=z:=IntWalk.i32_in z ⟨h1,h2⟩
theorem Yv {z:Int} (h1:0≤z) (h2:z≤255):IntKind.u8.wrap z=z:=IntWalk.u8_in z ⟨h1,h2⟩
theorem Uj {z:Int} (h1:0≤z) (h2:z≤65535):IntKind.u16.wrap z=z:=IntWalk.u16_in z ⟨h1,h2⟩
theorem Ui {z:Int} (h1:0≤z) (h2:z≤4294967295):IntKind.u32.wrap z=z:=IntWalk.u32_in z ⟨h1,h2⟩
theorem Uh {z:Int} (h1:0≤z) (h2:z≤18446744073709551615):IntKind.u64.wrap z=z:=IntWalk.u64_in z ⟨h1,h2⟩
def Ret (G:GS) (F:List bh) (post:GS→Value→Prop):Ending→World→Prop:=
 fun e w'=>∃v G',e= .returned v∧G.Le G'∧Holds G' w' F∧post G' v
structure Row (E size:Nat) (ao:Option Addr) (n cap:Nat) (xs:List Value) (c:bh):Prop where
 len:xs.length=n*size
 form:(ao=none∧n=0∧cap=0∧c=[])∨∃g cur,ao=some ⟨g,0,none⟩∧c=[(g,.cells cur E (0,0))]∧n≤cap∧cap≤maxLen∧cur.size=cap*size∧cur.toList.take (n*size)=xs
theorem Row.nil (E size:Nat):Row E size none 0 0 [] []:=⟨by simp,.inl ⟨rfl,rfl,rfl,rfl⟩⟩
theorem Holds.regrow {G:GS} {w w':World} {F:List bh} {c:bh} {row:Option Nat} (h:Holds G w (c::F)) (hg:w.grownBy w' row) (hrow:∀g,row=some g→g∈c.map (·.1)) {g:Nat} {o:Obj}
  (hw:w'.heap[g]?=some o) (hgc:row=some g∨w.heap.size≤g):Holds G w' ([(g,o)]::F):=by
 have hF:=h.drop
 have hn:=h.nodup
 simp only[apB,apJ]at hn
 have hd:=(List.nodup_append.1 hn).2.2
 have hkeep:∀b,b<w.heap.size→b∉c.map (·.1)→w'.heap[b]?=w.heap[b]?:=fun b hb hbc=>hg.block b hb (fun e=>hbc (hrow b e.symm))
 have hmem:∀b o',G.M b=some o'→b∉c.map (·.1):=by
  intro b o' hb hm
  obtain⟨p,hp,rfl⟩:=List.mem_map.1 hm
  have:=h.apart p (by simp only[apB,apK];exact .inl hp)
  rw[this]at hb;cases hb
 refine⟨hg.os.trans h.os,hg.tape.trans h.tape,hg.output.trans h.output,fun b o' hb=> ?_,fun p hp=> ?_,?_,fun p hp=> ?_⟩
 ·have:=h.mem b o' hb
  rw[hkeep b (cg this) (hmem b o' hb)];exact this
 ·simp only[apB,apC,apD,apF]at hp
  rcases hp with rfl|hp
  ·exact hw
  ·have:=hF.own p hp
   rw[hkeep p.1 (cg this) (fun hm=>hd _ hm _ (List.mem_map_of_mem hp) rfl)];exact this
 ·simp only[apB,apC,apD,List.map_cons,List.nodup_cons]
  refine⟨fun hm=> ?_,hF.nodup⟩
  obtain⟨p,hp,e⟩:=List.mem_map.1 hm
  rcases hgc with hr|hr
  ·exact hd _ (hrow g hr) _ (List.mem_map_of_mem hp) e.symm
  ·have:=cg (hF.own p hp);omega
 ·simp only[apB,apC,apD,apF]at hp
  rcases hp with rfl|hp
  ·rcases e:G.M g with _|o'
   ·rfl
   ·rcases hgc with hr|hr
    ·exact absurd (hrow g hr) (hmem g o' e)
    ·have:=cg (h.mem g o' e);omega
  ·exact hF.apart p hp
structure Fact where
 p:GS→Value→Prop
 mono:∀G G' v,G.Le G'→p G v→p G' v
def Fact.eq (u:Value):Fact:=⟨fun _ v=>v=u,fun _ _ _ _ h=>h⟩
def Fact.any:Fact:=⟨fun _ _=>True,fun _ _ _ _ h=>h⟩
def Fact.imp (b:Bool) (f:Fact):Fact:=⟨fun G v=>b=true→f.p G v,fun G G' v hG h hb=>f.mono G G' v hG (h hb)⟩
abbrev NF:=List (Option Nat×Fact)
def Phi (X:NF) (D:Nat→Bool) (a:Act) (G:GS):Prop:=∀i d f,X[i]?=some (some d,f)→D i=true→f.p G (a.tmps.getD d undef)
abbrev WT:=List (Nat×Nat×Value)
def Pre (O:WT) (D:Nat→Bool) (a:Act):Prop:=∀(i k t:Nat) (v:Value),O[i]?=some (k,t,v)→D k=false→a.tmps.getD t undef=v
structure JR (N:Nat) (L0:List (Nat×Value)) (X:NF) (O:WT) (HR:(Nat→Bool)→Act→GS→List bh→Prop) (G0:GS) (D:Nat→Bool) (a:Act) (w:World) (G:GS) (H:List bh):Prop where
 le:G0.Le G
 hr:HR D a G H
 holds:Holds G w H
 sf:SF N a L0
 phi:Phi X D a G
 pre:Pre O D a
def J (N:Nat) (L0:List (Nat×Value)) (X:NF) (O:WT) (HR:(Nat→Bool)→Act→GS→List bh→Prop) (G0:GS):(Nat→Bool)→Act→World→Prop:=
 fun D a w=>∃G H,JR N L0 X O HR G0 D a w G H
def Fact.ex (f:Nat→Value):Fact:=⟨fun _ v=>∃b,v=f b,fun _ _ _ _ h=>h⟩
def okX (N:Nat) (L0:List (Nat×Value)) (X:NF) (O:WT):Bool:=
 let ds:=X.map (·.1)
 let idx:=ds.zipIdx
 idx.all (fun p=>match p.1 with
  |none=>true
  |some d=>Nat.blt d N&&(L0.all fun q=> !Nat.beq q.1 d)&&(idx.all fun q=>Nat.beq q.2 p.2||(match q.1 with|some e=> !Nat.beq e d|none=>true))&&(O.all fun q=>Nat.beq q.1 p.2|| !Nat.beq q.2.1 d))
section
variable {P:Program} {Q:Exit→Act→World→Prop} {l:List Oper} {N:Nat} {L0:List (Nat×Value)} {X:NF} {O:WT} {HR:(Nat→Bool)→Act→GS→List bh→Prop} {G0:GS} {a:Act} {w:World}
theorem getD_put {a:Act} {d t:Nat} {v:Value} (h:t≠d):(a.put (some d) v).tmps.getD t undef=a.tmps.getD t undef:=by
 show(a.tmps.setIfInBounds d v).getD t undef=_
 rw[Array.getD_eq_getD_getElem?,Array.getD_eq_getD_getElem?,Array.getElem?_setIfInBounds_ne (fun e=>h e.symm)]
theorem TK {a:Act} {d:Nat} {v:Value} (h:d<a.tmps.size):(a.put (some d) v).tmps.getD d undef=v:=by
 simp[Act.put,Array.getD,h]
theorem xv {i j:Nat} (h:(!Nat.beq i j)=true):i≠j:=by
 rintro rfl
 simp at h
theorem anv (h:okX N L0 X O=true) {i d:Nat} {f:Fact} (hi:X[i]?=some (some d,f)):
  d<N∧(∀q∈L0,q.1≠d)∧(∀j e f',X[j]?=some (some e,f')→j≠i→e≠d)∧(∀(j k t:Nat) v,O[j]?=some (k,t,v)→k≠i→t≠d):=by
 unfold okX at h
 have hm:(some d,i)∈(X.map (·.1)).zipIdx:=by
  rw[List.mem_iff_getElem?]
  exact⟨i,by simp[hi]⟩
 have h1:=List.all_eq_true.1 h _ hm
 simp only[apP]at h1
 obtain⟨⟨⟨h1,h2⟩,h3⟩,h4⟩:=h1
 refine⟨by simpa[apV] using h1,fun q hq=>xv (List.all_eq_true.1 h2 q hq),fun j e f' hj hne=> ?_,fun j k t v hj hne=> ?_⟩
 ·have hm2:(some e,j)∈(X.map (·.1)).zipIdx:=by
   rw[List.mem_iff_getElem?]
   exact⟨j,by simp[hj]⟩
  have:=List.all_eq_true.1 h3 _ hm2
  simp only[Bool.or_eq_true]at this
  rcases this with h|h
  ·exact absurd (apz h) hne
  ·exact xv h
 ·have:=List.all_eq_true.1 h4 (k,t,v) (List.mem_iff_getElem?.2 ⟨j,hj⟩)
  simp only[Bool.or_eq_true]at this
  rcases this with h|h
  ·exact absurd (apz h) hne
  ·exact xv h
theorem SF.put_far {a:Act} {d:Nat} {v:Value} (s:SF N a L0) (h:∀q∈L0,q.1≠d):SF N (a.put (some d) v) L0:=by
 refine⟨by simpa[Act.put] using s.size,s.defers,fun t u hu=> ?_⟩
 have hne:t≠d:=by
  have:∀K:List (Nat×Value),lk K t=some u→∃q∈K,q.1=t:=by
   intro K
   induction K with
   |nil=>intro e;simp[lk]at e
   |cons p K ih=>
    intro e
    cases hb:Nat.beq t p.1 with
    |true=>exact⟨p,by simp,(apz hb).symm⟩
    |false=>
     simp only[lk,hb,cond_false]at e
     obtain⟨q,hq,e1⟩:=ih e
     exact⟨q,by simp[hq],e1⟩
  obtain⟨q,hq,rfl⟩:=this L0 hu
  exact h q hq
 rw[getD_put hne]
 exact s.at_ t u hu
theorem JR.did {D:Nat→Bool} {G G':GS} {H H':List bh} {w':World} {i d:Nat} {f:Fact} {v:Value} (j:JR N L0 X O HR G0 D a w G H) (hok:okX N L0 X O=true) (hi:X[i]?=some (some d,f))
  (hG:G.Le G') (hH:Holds G' w' H') (hHR:HR (Aq D i) (a.put (some d) v) G' H') (hv:f.p G' v):J N L0 X O HR G0 (Aq D i) (a.put (some d) v) w':=by
 obtain⟨h1,h2,h3,h4⟩:=anv hok hi
 refine⟨G',H',j.le.trans hG,hHR,hH,j.sf.put_far h2,fun k e f' hk hD=> ?_,fun k o t u hk hD=> ?_⟩
 ·by_cases e0:k=i
  ·subst e0
   rw[hi]at hk
   injection hk with hk
   injection hk with hk1 hk2
   injection hk1 with hk1
   subst hk1;subst hk2
   rw[TK (by rw[j.sf.size];exact h1)]
   exact hv
  ·rw[YA _ e0]at hD
   rw[getD_put (h3 k e f' hk e0)]
   exact f'.mono G G' _ hG (j.phi k e f' hk hD)
 ·by_cases e0:o=i
  ·subst e0;rw[ac5]at hD;cases hD
  ·rw[YA _ e0]at hD
   rw[getD_put (h4 k o t u hk e0)]
   exact j.pre k o t u hk hD
theorem JR.skip {D:Nat→Bool} {G:GS} {H:List bh} {i d:Nat} {b:Bool} {f:Fact} (j:JR N L0 X O HR G0 D a w G H) (hok:okX N L0 X O=true) (hi:X[i]?=some (some d,Fact.imp b f)) (hb:b=false)
  (hHR:HR (Aq D i) (a.put (some d) undef) G H):J N L0 X O HR G0 (Aq D i) (a.put (some d) undef) w:=
 j.did hok hi (GS.Le.refl G) j.holds hHR (fun h=>by rw[hb]at h;cases h)
theorem JR.old {D:Nat→Bool} {G:GS} {H:List bh} (j:JR N L0 X O HR G0 D a w G H) (i:Nat) {k t:Nat} {v:Value} (hi:O[i]?=some (k,t,v)) (hD:D k=false):a.tmps.getD t undef=v:=j.pre i k t v hi hD
theorem Ready.not {D:Nat→Bool} {i:Nat} (h:Ready l D i) {k j:Nat} {o:Oper} (hk:l[k]?=some o) (hj:(aak o).contains j=true) (hD:D j=false):D k=false:=by
 cases e:D k with
 |false=>rfl
 |true=>rw[h.closed k o hk e j (by simpa using hj)]at hD;cases hD
theorem Steps.of:∀(r:List Oper) (i:Nat) {J:(Nat→Bool)→Act→World→Prop},(∀k o,r[k]?=some o→WQ P l Q J (i+k) o)→Steps P l Q J i r
 |[],_,_,_=>trivial
 |o::r,i,J,h=>⟨h 0 o rfl,Steps.of r (i+1) fun k o' hk=>by have:=h (k+1) o' (by simpa using hk);rwa[show i+(k+1)=i+1+k by omega]at this⟩
end
end Go.Eng
namespace Go.Eng
open Go Go.RowKit
section
variable {P:Program} {ops:Array Oper} {Q:Exit→Act→World→Prop} {a:Act} {w:World} {rest:List Oper} {N d:Nat} {L:List (Nat×Value)} {G:GS} {H:List bh} {ty:TypeId} {pos:String} {af:Array Edge}
end
end Go.Eng
namespace Go.Eng
open Go Go.RowKit
end Go.Eng
namespace Go.Eng
open Go Go.RowKit
end Go.Eng
namespace Go.Eng
open Go Go.RowKit
section
variable {P:Program} {ops:Array Oper} {Q:Exit→Act→World→Prop} {K:Act→World→Prop} {a:Act} {w:World} {rest:List Oper} {N d:Nat} {L:List (Nat×Value)} {G:GS} {H:List bh}
 {dst:Option Tmp} {ty:TypeId} {pos:String} {af:Array Edge} {g:Option (Nat×Bool)} {x y:Operand}
section
variable {t t2:TypeId} {kd:IntKind} {m n z:Int}
end
theorem Holds.ext {w':World} (h:Holds G w H) (hb:Below w.heap.size w w'):Holds G w' H:=
 ⟨hb.os.trans h.os,hb.tape.trans h.tape,hb.output.trans h.output,fun b o hm=>by have:=h.mem b o hm;rw[hb.block b (cg this)];exact this,
  fun p hp=>by have:=h.own p hp;rw[hb.block p.1 (cg this)];exact this,h.nodup,h.apart⟩
theorem Ret.of {f:Nat} {vs:Array Value} {v:Value} {F:List bh} {post:GS→Value→Prop} (h:Holds G w F) (hc:Calls P f vs w fun e w'=>e= .returned v∧Below w.heap.size w w') (hp:post G v):Calls P f vs w (Ret G F post):=
 hc.mono fun _ _ ⟨he,hb⟩=>⟨v,G,he,GS.Le.refl G,h.ext hb,hp⟩
def GVar (P:Program) (name:String) (cs:Array Value) (G:GS):Prop:=∃g T fz,P.globalNamed name=some g∧G.M g=some (.cells cs T fz)
theorem GVar.mono {name:String} {cs:Array Value} {G':GS} (h:GVar P name cs G) (hG:G.Le G'):GVar P name cs G':=by
 obtain⟨g,T,fz,h1,h2⟩:=h
 exact⟨g,T,fz,h1,hG.mem _ _ h2⟩
structure RdF {α:Type} (enc:α→List Value) (size:Nat) (M:re) (ao:Option Addr) (cap:Nat) (l:List α):Prop where
 le:l.length≤cap
 cap:cap≤9223372036854775807
 addr:0<l.length→ao=some ⟨blk ao,AY ao,none⟩
 row:∀i x,l[i]?=some x→MRow M (blk ao) (AY ao+i*size) (enc x)
theorem RdF.mono {α:Type} {enc:α→List Value} {size cap:Nat} {G':GS} {ao:Option Addr} {l:List α} (h:RdF enc size G.M ao cap l) (hG:G.Le G'):RdF enc size G'.M ao cap l:=
 ⟨h.le,h.cap,h.addr,fun i x hx=>(h.row i x hx).mono hG⟩
theorem RdF.nil {α:Type} (enc:α→List Value) (size:Nat) (M:re) (ao:Option Addr):RdF enc size M ao 0 ([]:List α):=
 ⟨by simp,by omega,fun h=>by simp at h,fun i x h=>by simp at h⟩
theorem Zh {α:Type} (enc:α→List Value) (size:Nat) (he:∀x,(enc x).length=size):∀(l:List α) (i:Nat) (x:α),l[i]?=some x→∀j v,(enc x)[j]?=some v→(l.flatMap enc)[i*size+j]?=some v
 |[],i,x,h=>by simp at h
 |y::l,0,x,h=>by
  simp only[List.getElem?_cons_zero,apQ]at h
  subst h
  intro j v hv
  simp only[Nat.zero_mul,Nat.zero_add,List.flatMap_cons]
  rw[List.getElem?_append_left (List.getElem?_eq_some_iff.1 hv).1]
  exact hv
 |y::l,i+1,x,h=>by
  intro j v hv
  have:=Zh enc size he l i x (by simpa using h) j v hv
  simp only[List.flatMap_cons]
  rw[List.getElem?_append_right (by rw[he];rw[Nat.add_mul];omega),he,show(i+1)*size+j - size=i*size+j by rw[Nat.add_mul];omega]
  exact this
theorem Row.toG {α:Type} {enc:α→List Value} {E size n cap:Nat} {ao:Option Addr} {l:List α} {c:bh} (he:∀x,(enc x).length=size) (r:Row E size ao n cap (l.flatMap enc) c) (hn:l.length=n) (h:Holds G w (c::H)):
  ∃G',G.Le G'∧Holds G' w H∧RdF enc size G'.M ao cap l:=by
 obtain⟨h1,h2,h3⟩:=h.toG
 refine⟨_,h1,h2,?_⟩
 subst hn
 rcases r.form with⟨rfl,h4,rfl,rfl⟩|⟨g,cur,rfl,rfl,h4,h5,h6,h7⟩
 ·have:l=[]:=List.eq_nil_of_length_eq_zero h4
  subst this
  exact RdF.nil _ _ _ _
 ·refine⟨h4,h5,fun _=>rfl,fun i x hx j v hv=> ?_⟩
  have hM:=h3 (g,.cells cur E (0,0)) (by simp)
  simp only at hM
  simp only[blk,AY,ou,hM,Nat.zero_add]
  have hf:=Zh enc size he l i x hx j v hv
  rw[←h7]at hf
  have hlt:i*size+j<l.length*size:=by
   rcases Nat.lt_or_ge (i*size+j) (l.length*size) with h8|h8
   ·exact h8
   ·rw[List.getElem?_take_eq_none h8]at hf;cases hf
  rw[apO hlt]at hf
  simpa using hf
end
end Go.Eng
namespace Go.Eng
open Go Go.RowKit
theorem Row.lit {E size n b:Nat} {xs:List Value} (hl:xs.length=n*size) (hn:n≤maxLen):Row E size (some ⟨b,0,none⟩) n n xs [(b,.cells xs.toArray E (0,0))]:=
 ⟨hl,.inr ⟨b,xs.toArray,rfl,rfl,apM _,hn,by simpa using hl,by rw[←hl];simp⟩⟩
theorem Holds.nil {G:GS} {w:World} {H:List bh} (h:Holds G w H):Holds G w ([]::H):=h.perm (by simp)
section
variable {P:Program} {ops:Array Oper} {Q:Exit→Act→World→Prop} {a:Act} {w:World} {rest:List Oper} {N d:Nat} {L:List (Nat×Value)} {G:GS} {F:List bh} {ty:TypeId} {pos:String} {af:Array Edge}
def kR (P:Program) (E size bytes:Nat):Bool:=match P.info? E with
 |some i=>match i.zero with
  |some z=>Nat.beq i.size size&&Nat.beq z.cells.size size&&Nat.beq i.bytes bytes&&Nat.blt 0 size
  |none=>false
 |none=>false
theorem kE {E size bytes:Nat} (h:kR P E size bytes=true):∃i z,P.info? E=some i∧i.zero=some z∧i.size=size∧z.cells.size=size∧i.bytes=bytes∧0<size:=by
 unfold kR at h
 rcases hi:P.info? E with _|i
 ·simp[hi]at h
 ·rcases hz:i.zero with _|z
  ·simp[hi,hz]at h
  ·simp only[hi,hz,apP,apV]at h
   exact⟨i,z,rfl,hz,apz h.1.1.1,apz h.1.1.2,apz h.1.2,h.2⟩
end
end Go.Eng
namespace Go.Eng
open Go Go.RowKit
section
variable {P:Program} {Q:Exit→Act→World→Prop} {K:Act→World→Prop} {a:Act} {w:World} {dst:Option Tmp} {ty:TypeId} {pos:String} {af:Array Edge} {g:Option (Nat×Bool)} {x y:Operand} {kd:IntKind} {m n z:Int}
end
end Go.Eng
namespace Go.Eng
open Go Go.RowKit
section
variable {P:Program} {Q:Exit→Act→World→Prop} {K:Act→World→Prop} {a:Act} {w:World} {dst:Option Tmp} {ty:TypeId} {pos:String} {af:Array Edge} {g:Option (Nat×Bool)} {x y:Operand}
end
end Go.Eng
namespace Go.Eng
open Go Go.RowKit Go.Lib
abbrev u8 (x:UInt8):Value:=.int .u8 x.toNat
def BuildC (T b:Nat) (l:List UInt8) (c:bh):Prop:=
 ∃p ao cap cr,(p= .pointer none∨p= .pointer (some ⟨b,0,none⟩))∧Row 5 1 ao l.length cap (l.map u8) cr∧(l=[]→ao=none)∧c=(b,.cells #[p,.slice ao l.length cap] T (0,0))::cr
theorem BuildC.new (T b:Nat):BuildC T b [] [(b,.cells #[.pointer none,.slice none 0 0] T (0,0))]:=
 ⟨_,none,0,[],.inl rfl,Row.nil 5 1,fun _=>rfl,rfl⟩
theorem Holds.split {G:GS} {w:World} {x:Nat×Obj} {c:bh} {F:List bh} (h:Holds G w ((x::c)::F)):Holds G w ([x]::c::F):=h.perm (by simp)
section
variable {P:Program} {ops:Array Oper} {Q:Exit→Act→World→Prop} {K:Act→World→Prop} {a:Act} {w:World} {rest:List Oper} {N d:Nat} {L:List (Nat×Value)} {G:GS} {F:List bh}
 {dst:Option Tmp} {ty:TypeId} {pos:String} {af:Array Edge} {g:Option (Nat×Bool)} {x y:Operand}
end
end Go.Eng
namespace Go.Eng
open Go Go.RowKit Go.Lib
section
variable {P:Program} {ops:Array Oper} {Q:Exit→Act→World→Prop} {K:Act→World→Prop} {a:Act} {w:World} {rest:List Oper} {N d:Nat} {L:List (Nat×Value)} {G:GS} {F:List bh}
 {dst:Option Tmp} {ty:TypeId} {pos:String} {af:Array Edge} {g:Option (Nat×Bool)} {x y:Operand}
end
end Go.Eng
namespace Go.Eng
open Go Go.RowKit Go.Lib
theorem Holds.frozen {G:GS} {w:World} {c:bh} {F:List bh} (h:Holds G w (c::F)) {b n:Nat} (hb:b∈c.map (·.1)):Holds G (w.freeze ⟨b,0,none⟩ n) F:=by
 have hf:=h.drop
 have hn:=h.nodup
 simp only[apB,apJ]at hn
 have hd:=(List.nodup_append.1 hn).2.2
 have hk:∀k,k≠b→(w.freeze ⟨b,0,none⟩ n).heap[k]?=w.heap[k]?:=by
  intro k hk
  unfold World.freeze
  split
  ·rfl
  ·simp only[Array.getElem?_modify]
   rw[if_neg (fun e=>hk e.symm)]
 have hs:(w.freeze ⟨b,0,none⟩ n).os=w.os∧(w.freeze ⟨b,0,none⟩ n).tape=w.tape∧(w.freeze ⟨b,0,none⟩ n).output=w.output:=by
  unfold World.freeze
  split<;>exact⟨rfl,rfl,rfl⟩
 refine⟨hs.1.trans h.os,hs.2.1.trans h.tape,hs.2.2.trans h.output,fun k o hm=> ?_,fun p hp=> ?_,hf.nodup,hf.apart⟩
 ·rw[hk k]
  ·exact h.mem k o hm
  ·rintro rfl
   obtain⟨q,hq,rfl⟩:=List.mem_map.1 hb
   have:=h.apart q (by simp only[apB,apK];exact .inl hq)
   rw[this]at hm;cases hm
 ·rw[hk p.1]
  ·exact hf.own p hp
  ·intro e
   exact hd b hb _ (List.mem_map_of_mem hp) e.symm
section
variable {P:Program} {Q:Exit→Act→World→Prop} {K:Act→World→Prop} {a:Act} {w:World} {G:GS} {F:List bh}
 {dst:Option Tmp} {ty:TypeId} {pos:String} {af:Array Edge} {g:Option (Nat×Bool)} {x y:Operand}
end
end Go.Eng
namespace Go.Eng
open Go Go.RowKit
end Go.Eng
namespace Go.Eng
open Go Go.RowKit
abbrev AMap (κ:Type):=List (κ×Value)
def AMap.at_ {κ:Type} [DecidableEq κ] (m:AMap κ) (k:κ):Option Value:=match m with
 |[]=>none
 |p::m=>if k=p.1 then some p.2 else AMap.at_ m k
def AMap.put {κ:Type} [DecidableEq κ] (m:AMap κ) (k:κ) (v:Value):AMap κ:=match m with
 |[]=>[(k,v)]
 |p::m=>if k=p.1 then (k,v)::m else p::AMap.put m k v
structure aps {κ:Type} (ok:κ→Prop) (enc:κ→Value) (m:AMap κ) (es:Array MapEntry):Prop where
 ents:es.toList.map (fun e=>(e.key,e.val))=m.map (fun p=>(enc p.1,p.2))
 keys:∀p∈m,ok p.1
def MapC {κ:Type} (ok:κ→Prop) (enc:κ→Value) (m:AMap κ) (b:Nat) (c:bh):Prop:=∃es clock,c=[(b,.map es clock)]∧aps ok enc m es
section
variable {P:Program} {Q:Exit→Act→World→Prop} {K:Act→World→Prop} {a:Act} {w:World} {dst:Option Tmp} {ty:TypeId} {pos:String} {af:Array Edge} {g:Option (Nat×Bool)} {x y z:Operand} {G:GS} {F H:List bh}
variable {κ:Type} [DecidableEq κ] {okk:κ→Prop} {enc:κ→Value} {kt:TypeId} {m:AMap κ}
omit [DecidableEq κ] in
theorem MapC.new (ok:κ→Prop) (enc:κ→Value) (b:Nat):MapC ok enc [] b [(b,.map #[] 0)]:=⟨#[],0,rfl,by simp,by simp⟩
end
def ae:List (Option Bool)→Option Bool
 |[]=>some true
 |[x]=>x
 |x::r=>match x,ae r with
  |some a,some b=>some (a&&b)
  |_,_=>none
section
variable {P:Program} {w:World}
end
end Go.Eng
namespace Go.Eng
open Go Go.RowKit
section
variable {P:Program} {ops:Array Oper} {Q:Exit→Act→World→Prop} {K:Act→World→Prop} {a:Act} {w:World} {rest:List Oper} {dst:Option Tmp} {ty:TypeId} {pos:String} {af:Array Edge} {g:Option (Nat×Bool)} {x y z:Operand} {G:GS} {F H:List bh} {N:Nat} {L:List (Nat×Value)} {d:Nat}
theorem Row.addr {E size n cap:Nat} {ao:Option Addr} {xs:List Value} {c:bh} (r:Row E size ao n cap xs c) (h:0<n):ao=some ⟨blk ao,AY ao,none⟩:=by
 rcases r.form with⟨_,h2,_,_⟩|⟨g,cur,rfl,_⟩
 ·omega
 ·rfl
end
abbrev I64 (n:Int):Prop:= -9223372036854775808≤n∧n≤9223372036854775807
abbrev U8 (n:Int):Prop:=0≤n∧n≤255
abbrev U16 (n:Int):Prop:=0≤n∧n≤65535
abbrev U32 (n:Int):Prop:=0≤n∧n≤4294967295
structure Proc where
 node:Int
 life:Int
deriving DecidableEq
structure Step where
 group:Int
 index:Int
deriving DecidableEq
structure ID where
 client:Proc
 seq:Int
 depth:Int
 p0:Step
 p1:Step
 p2:Step
deriving DecidableEq
structure Fault where
 kind:Int
 id:ID
 group:Int
 at_:Int
abbrev Proc.ok (p:Proc):Prop:=U8 p.node∧U16 p.life
abbrev Step.ok (p:Step):Prop:=U8 p.group∧U8 p.index
abbrev ID.ok (d:ID):Prop:=d.client.ok∧U32 d.seq∧U8 d.depth∧d.p0.ok∧d.p1.ok∧d.p2.ok
abbrev Fault.ok (f:Fault):Prop:=I64 f.kind∧f.id.ok∧U8 f.group∧I64 f.at_
end Go.Eng
namespace Go.Eng
open Go Go.RowKit
end Go.Eng
namespace Go.Eng
open Go Go.RowKit
section
variable {H:Type} {enc:TypeId×Value→H} {P:Program} {w:World} {base:Nat} {spare:Nat→Bool} {held:Bool}
end
inductive Kd|P|R|E|A
def Q0:Exit→Act→World→Prop:=fun _ _ _=>False
theorem vv:¬LetsOut Q0:=fun⟨_,_,h⟩=>h
section
variable {P:Program} {ops:Array Oper} {a a':Act} {w w':World} {K K':Act→World→Prop} {i j:Nat} {o:Oper}
def op1 (P:Program) (ops:Array Oper) (i:Nat) (K:Act→World→Prop) (a:Act) (w:World):Prop:=wpOp P ops Q0 i K a w
theorem op1.mono (h:op1 P ops i K a w) (hk:∀a w,K a w→K' a w):op1 P ops i K' a w:=wpOp_mono hk h
def zP (ops:Array Oper) (i:Nat):Option Tmp:=(ops[i]?).bind (·.dst)
theorem cD (h:ops[i]?=some o):zP ops i=o.dst:=by simp[zP,h]
def Sh (x:Option Tmp) (a a':Act):Prop:=∃u,a'=a.put x u∨∃d,a'=({a with defers:=d::a.defers}:Act).put x u
theorem mM (a:Act) (x:Option Tmp) (v:Value):(a.put x v).defers=a.defers:=by cases x<;>rfl
theorem KP (a:Act) (x:Option Tmp) (v:Value) (d:Deferred):({(a.put x v) with defers:=d::(a.put x v).defers}:Act)=({a with defers:=d::a.defers}:Act).put x v:=by cases x<;>rfl
structure Far (ops:Array Oper) (x:Option Tmp) (o:Oper):Prop where
 look:∀d,x=some d→d∉o.looksAt ops
 dst:∀d,x=some d→o.dst≠some d
 sel:∀cs b,o.op≠ .select cs b
theorem KX (hi:ops[i]?=some o) {x:Option Tmp} {v:Value} (f:Far ops x o) (h:op1 P ops i K (a.put x v) w):op1 P ops i (fun a' w'=>K (a'.put x v) w'∧Sh o.dst a a') a w:=by
 unfold op1 wpOp at*
 simp only[hi]at*
 rw[wanted_put o a x v f.look]at h
 split
 ·rename_i hw
  simp only[hw,if_true]at h
  rcases h with h|⟨_,hl⟩
  case inr=>exact absurd hl vv
  refine .inl ?_
  unfold Oper.wp at*
  rw[execOp_put o f.sel a x v f.look]at h
  generalize (execOp a.eval o).run P w=r at*
  have hc:∀u,(a.put o.dst u).put x v=(a.put x v).put o.dst u:=fun u=>(Act.put_comm a v u f.dst).symm
  cases r with
  |ok n w'=>
   cases n<;>simp only[Oper.upon]at h ⊢
   case value u=>exact⟨by rw[hc];exact h,u,.inl rfl⟩
   case skip=>exact⟨by rw[hc];exact h,_,.inl rfl⟩
   case defer d=>
    refine⟨?_,_,.inr ⟨d,rfl⟩⟩
    rw[KP]at h
    rw[←Act.put_comm _ v undef f.dst]
    exact h
   case enter g args=>
    refine Calls.mono h fun e w'' he=> ?_
    cases e with
    |returned u=>exact⟨by rw[hc];exact he,u,.inl rfl⟩
    |panicked c=>exact he
    |outgrown=>exact he
   case row row args=>exact Rows.mono h fun u w'' he=>⟨by rw[hc];exact he,u,.inl rfl⟩
  |halt y w'=>cases y<;>simp only[Oper.upon]at h ⊢;exact h
 ·rename_i hw
  simp only[hw]at h
  exact⟨by rw[←Act.put_comm a v undef f.dst];exact h,_,.inl rfl⟩
theorem af8 (hi:ops[i]?=some o) {x:Option Tmp} {v:Value} (f:Far ops x o) (h:op1 P ops i K a w):op1 P ops i (fun a' w'=>∃a3,a'=a3.put x v∧K a3 w') (a.put x v) w:=by
 unfold op1 wpOp at*
 simp only[hi]at*
 rw[wanted_put o a x v f.look]
 split
 ·rename_i hw
  simp only[hw,if_true]at h
  rcases h with h|⟨_,hl⟩
  case inr=>exact absurd hl vv
  refine .inl ?_
  unfold Oper.wp at*
  rw[execOp_put o f.sel a x v f.look]
  generalize (execOp a.eval o).run P w=r at*
  have hc:∀u,(a.put x v).put o.dst u=(a.put o.dst u).put x v:=fun u=>Act.put_comm a v u f.dst
  cases r with
  |ok n w'=>
   cases n<;>simp only[Oper.upon]at h ⊢
   case value u=>exact⟨_,hc u,h⟩
   case skip=>exact⟨_,hc _,h⟩
   case defer d=>
    refine⟨_,?_,h⟩
    rw[KP]
    exact Act.put_comm _ v undef f.dst
   case enter g args=>
    refine Calls.mono h fun e w'' he=> ?_
    cases e with
    |returned u=>exact⟨_,hc u,he⟩
    |panicked c=>exact he
    |outgrown=>exact he
   case row row args=>exact Rows.mono h fun u w'' he=>⟨_,hc u,he⟩
  |halt y w'=>cases y<;>simp only[Oper.upon]at h ⊢;exact h
 ·rename_i hw
  simp only[hw]at h
  exact⟨_,Act.put_comm a v undef f.dst,h⟩
theorem pc (a:Act) (x:Option Tmp) (u v:Value):(a.put x u).put x v=a.put x v:=by
 cases x with
 |none=>rfl
 |some d=>simp[Act.put]
theorem af7 (hi:ops[i]?=some o) {v:Value} (hl:∀d,o.dst=some d→d∉o.looksAt ops) (hs:∀cs b,o.op≠ .select cs b) (h:op1 P ops i K (a.put o.dst v) w):op1 P ops i K a w:=by
 unfold op1 wpOp at*
 simp only[hi]at*
 rw[wanted_put o a o.dst v hl]at h
 split
 ·rename_i hw
  simp only[hw,if_true]at h
  rcases h with h|⟨_,hl⟩
  case inr=>exact absurd hl vv
  refine .inl ?_
  unfold Oper.wp at*
  rw[execOp_put o hs a o.dst v hl]at h
  generalize (execOp a.eval o).run P w=r at*
  cases r with
  |ok n w'=>
   cases n<;>simp only[Oper.upon]at h ⊢
   case value u=>rw[pc]at h;exact h
   case skip=>rw[pc]at h;exact h
   case defer d=>rw[KP,pc]at h;exact h
   case enter g args=>
    refine Calls.mono h fun e w'' he=> ?_
    cases e with
    |returned u=>(have he':K ((a.put o.dst v).put o.dst u) w'':=he);rw[pc]at he';exact he'
    |panicked c=>exact he
    |outgrown=>exact he
   case row row args=>exact Rows.mono h fun u w'' he=>by rw[pc]at he;exact he
  |halt y w'=>cases y<;>simp only[Oper.upon]at h ⊢;exact h
 ·rename_i hw
  simp only[hw]at h
  simp only[Bool.false_eq_true,if_false,pc]at h
  exact h
def RV (P:Program) (ops:Array Oper) (i:Nat) (v:Value) (a:Act) (w:World):Prop:=op1 P ops i (fun a' w'=>a'=a.put (zP ops i) v∧w'=w) a w
theorem RV.to {v:Value} (h:RV P ops i v a w) (hk:K (a.put (zP ops i) v) w):op1 P ops i K a w:=h.mono fun a' w' ⟨h1,h2⟩=>by rw[h1,h2];exact hk
theorem RV.push (hi:ops[i]?=some o) {x:Option Tmp} {u v:Value} (f:Far ops x o) (h:RV P ops i v a w):RV P ops i v (a.put x u) w:=by
 refine(af8 (v:=u) hi f h).mono fun a' w' ⟨a3,h1,h2,h3⟩=>⟨?_,h3⟩
 rw[h1,h2,cD hi]
 exact(Act.put_comm a u v f.dst).symm
theorem ajt {a:Act} {x y:Option Tmp} {u p q:Value} (hxy:∀d,x=some d→y≠some d) (h:(a.put x u).put y p=(a.put x u).put y q):a.put y p=a.put y q:=by
 cases y with
 |none=>rfl
 |some e=>
  by_cases he:e<a.tmps.size
  ·have h1:=congrArg (fun b:Act=>b.tmps[e]?) h
   cases x with
   |none=>exact h
   |some d=>
    simp[Act.put,he]at h1
    rw[h1]
  ·simp[Act.put,Array.setIfInBounds,he]
theorem adb {a:Act} {x y:Option Tmp} {v u:Value} (hxy:∀d,x=some d→y≠some d) (h:(a.put x v).put y u=a.put x v):a.put y u=a:=by
 cases y with
 |none=>rfl
 |some e=>
  have hset:a.tmps[e]?=some u∨a.tmps.size≤e:=by
   rcases Nat.lt_or_ge e a.tmps.size with he|he
   ·refine .inl ?_
    have h1:=congrArg (fun q:Act=>q.tmps[e]?) h
    cases x with
    |none=>
     simp only[Act.put]at h1
     rw[Array.getElem?_setIfInBounds_self_of_lt he]at h1
     exact h1.symm
    |some d=>
     have hde:d≠e:=fun q=>hxy d rfl (by rw[q])
     simp only[Act.put]at h1
     rw[Array.getElem?_setIfInBounds_self_of_lt (by simpa using he),Array.getElem?_setIfInBounds_ne hde]at h1
     exact h1.symm
   ·exact .inr he
  have:a.tmps.setIfInBounds e u=a.tmps:=by
   apply Array.ext_getElem?
   intro j
   by_cases q:e=j
   ·subst q
    rcases hset with q|q
    ·obtain⟨hlt,_⟩:=Array.getElem?_eq_some_iff.1 q
     rw[Array.getElem?_setIfInBounds_self_of_lt hlt,q]
    ·rw[Array.getElem?_eq_none (by simpa using q),Array.getElem?_eq_none q]
   ·rw[Array.getElem?_setIfInBounds_ne q]
  simp only[Act.put,this]
theorem RV.pull (hi:ops[i]?=some o) {x:Option Tmp} {u v:Value} (f:Far ops x o) (h:RV P ops i v (a.put x u) w):RV P ops i v a w:=by
 refine(KX hi f h).mono fun a' w' ⟨⟨h1,h2⟩,z,h3⟩=>⟨?_,h2⟩
 rw[cD hi]at h1 ⊢
 rcases h3 with rfl|⟨d,rfl⟩
 ·rw[←Act.put_comm a u z f.dst]at h1
  exact ajt f.dst h1
 ·have:=congrArg Act.defers h1
  rw[mM,mM,mM,mM]at this
  have:=congrArg List.length this
  simp at this
theorem RV.self (hi:ops[i]?=some o) {u v:Value} (hl:∀d,o.dst=some d→d∉o.looksAt ops) (hs:∀cs b,o.op≠ .select cs b) (h:RV P ops i v (a.put o.dst u) w):RV P ops i v a w:=by
 unfold RV at h
 rw[cD hi]at h
 simp only[pc]at h
 unfold RV
 rw[cD hi]
 exact af7 hi hl hs h
theorem RV.defer {v:Value} {d:Deferred} (hi:ops[i]?=some o) (h:RV P ops i v a w):RV P ops i v {a with defers:=d::a.defers} w:=by
 unfold RV op1 wpOp at*
 rw[cD hi]at*
 simp only[hi]at*
 have hev:({a with defers:=d::a.defers}:Act).eval=a.eval:=funext fun x=>by cases x<;>rfl
 split
 ·rename_i hw
  simp only[hw,if_true]at h
  rcases h with h|⟨_,hl⟩
  case inr=>exact absurd hl vv
  refine .inl ?_
  unfold Oper.wp at*
  rw[hev]
  generalize (execOp a.eval o).run P w=r at*
  have hc:∀u,a.put o.dst u=a.put o.dst v→({a with defers:=d::a.defers}:Act).put o.dst u=({a with defers:=d::a.defers}:Act).put o.dst v:=fun u hu=>by
   have:=congrArg Act.tmps hu
   cases hd:o.dst with
   |none=>rfl
   |some t=>rw[hd]at this;simp only[Act.put]at this ⊢;rw[this]
  cases r with
  |ok n w'=>
   cases n<;>simp only[Oper.upon]at h ⊢
   case value u=>exact⟨hc u h.1,h.2⟩
   case skip=>exact⟨hc _ h.1,h.2⟩
   case defer e=>
    exfalso
    have:=congrArg List.length (congrArg Act.defers h.1)
    rw[mM,mM]at this
    simp at this
   case enter g args=>
    refine Calls.mono h fun e w'' he=> ?_
    cases e with
    |returned u=>exact⟨hc u he.1,he.2⟩
    |panicked c=>exact he
    |outgrown=>exact he
   case row row args=>exact Rows.mono h fun u w'' he=>⟨hc u he.1,he.2⟩
  |halt y w'=>cases y<;>simp only[Oper.upon]at h ⊢;exact h
 ·rename_i hw
  simp only[hw]at h
  have:=congrArg Act.tmps h.1
  refine⟨?_,h.2⟩
  cases hd:o.dst with
  |none=>rfl
  |some t=>rw[hd]at this;simp only[Act.put]at this ⊢;rw[this]
theorem RV.sh (hi:ops[i]?=some o) {v:Value} {x:Option Tmp} (f:Far ops x o) (hs:Sh x a a') (h:RV P ops i v a w):RV P ops i v a' w:=by
 obtain⟨u,rfl|⟨d,rfl⟩⟩:=hs
 ·exact h.push hi f
 ·exact(h.defer hi).push hi f
def rm (P:Program) (ops:Array Oper) (Q:Act→World→Prop):List (Nat×Kd)→Act→World→Prop
 |[],a,w=>Q a w
 |(i,.P)::r,a,w=>∃v,(∀w',RV P ops i v a w')∧rm P ops Q r (a.put (zP ops i) v) w
 |(i,.R)::r,a,w=>∃v,RV P ops i v a w∧rm P ops Q r (a.put (zP ops i) v) w
 |(i,.E)::r,a,w=>op1 P ops i (rm P ops Q r) a w
 |(i,.A)::r,a,w=>(∃v,RV P ops i v a w∧a.put (zP ops i) v=a)∧rm P ops Q r a w
def hP:List (Nat×Kd)→List (Nat×Kd)
 |[]=>[]
 |(_,.A)::r=>hP r
 |x::r=>x::hP r
def mg:List (Nat×Kd)→Bool
 |[]=>true
 |(_,.E)::_=>false
 |_::r=>mg r
def xN (ops:Array Oper) (b i:Nat):Bool:=match ops[b]?,ops[i]? with
 |some x,some y=>(match x.dst with|some d=> !(y.looksAt ops).contains d&&(match y.dst with|some e=> !Nat.beq e d|none=>true)|none=>true)&&(match y.op with|.select ..=>false|_=>true)
 |_,_=>false
def abj (ops:Array Oper) (i:Nat):Bool:=match ops[i]? with
 |some y=>(match y.dst with|some d=> !(y.looksAt ops).contains d|none=>true)&&(match y.op with|.select ..=>false|_=>true)
 |none=>false
theorem ny {b i:Nat} (h:xN ops b i=true):∃x y,ops[b]?=some x∧ops[i]?=some y∧Far ops x.dst y:=by
 unfold xN at h
 rcases hb:ops[b]? with _|x
 ·simp[hb]at h
 rcases hi:ops[i]? with _|y
 ·simp[hb,hi]at h
 simp only[hb,hi,apP]at h
 refine⟨x,y,rfl,rfl,fun d hd hm=> ?_,fun d hd he=> ?_,fun cs c hc=> ?_⟩
 ·simp[hd,hm]at h
 ·simp[hd,he]at h
 ·simp[hc]at h
theorem afW {i:Nat} (h:abj ops i=true):∃y,ops[i]?=some y∧(∀d,y.dst=some d→d∉y.looksAt ops)∧∀cs b,y.op≠ .select cs b:=by
 unfold abj at h
 rcases hi:ops[i]? with _|y
 ·simp[hi]at h
 simp only[hi,apP]at h
 refine⟨y,rfl,fun d hd hm=> ?_,fun cs c hc=> ?_⟩
 ·simp[hd,hm]at h
 ·simp[hc]at h
def iG (ops:Array Oper) (b:Nat):List (Nat×Kd)→Bool
 |[]=>false
 |(i,.A)::r=>Nat.beq i b||iG ops b r
 |(_,.E)::_=>false
 |(i,_)::r=>xN ops i b&&iG ops b r
theorem zT {Q:Act→World→Prop} {b:Nat} {y:Oper} (hb:ops[b]?=some y):∀{C:List (Nat×Kd)} {a:Act} {w:World},iG ops b C=true→rm P ops Q C a w→∃v,RV P ops b v a w∧a.put y.dst v=a
 |[],_,_,h,_=>by simp[iG]at h
 |(i,.A)::r,a,w,h,⟨⟨v,h1,h2⟩,h3⟩=>by
  simp only[iG,Bool.or_eq_true]at h
  rcases h with h|h
  ·have:=apz h
   subst this
   exact⟨v,h1,by rw[←cD hb];exact h2⟩
  ·exact zT hb h h3
 |(_,.E)::r,_,_,h,_=>by simp[iG]at h
 |(i,.P)::r,a,w,h,⟨v,h1,h2⟩=>by
  simp only[iG,apP]at h
  obtain⟨x,z,e1,e2,f⟩:=ny h.1
  rw[hb]at e2;cases e2
  rw[cD e1]at h2
  obtain⟨u,g1,g2⟩:=zT hb h.2 h2
  exact⟨u,g1.pull hb f,adb f.dst g2⟩
 |(i,.R)::r,a,w,h,⟨v,h1,h2⟩=>by
  simp only[iG,apP]at h
  obtain⟨x,z,e1,e2,f⟩:=ny h.1
  rw[hb]at e2;cases e2
  rw[cD e1]at h2
  obtain⟨u,g1,g2⟩:=zT hb h.2 h2
  exact⟨u,g1.pull hb f,adb f.dst g2⟩
def lO (ops:Array Oper) (b:Nat) (kb:Kd) (j:Nat) (kj:Kd) (C:List (Nat×Kd)):Bool:=
 xN ops b j&&xN ops j b&&(match kb,kj with
  |.P,_=>true
  |.R,.E=>abj ops b&&iG ops b C
  |.R,_=>true
  |_,_=>false)
def jA (ops:Array Oper) (j:Nat) (kj:Kd) (C:List (Nat×Kd)):List (Nat×Kd)→Bool
 |[]=>true
 |(_,.A)::B=>jA ops j kj C B
 |(b,kb)::B=>lO ops b kb j kj C&&(match kb,kj with|.R,.E=>(B.all fun p=>match p.2 with|.A=>true|_=>xN ops p.1 b)|_,_=>true)&&jA ops j kj C B
theorem zU {b:Nat}:∀{B C:List (Nat×Kd)},(B.all fun p=>match p.2 with|.A=>true|_=>xN ops p.1 b)=true→mg B=true→iG ops b C=true→iG ops b (hP B++C)=true
 |[],_,_,_,h=>h
 |(_,.A)::B,C,h,he,h2=>zU (B:=B) (by simpa using h) (by simpa[mg] using he) h2
 |(_,.E)::B,C,h,he,h2=>by simp[mg]at he
 |(i,.P)::B,C,h,he,h2=>by
  simp only[List.all_cons,apP]at h
  simp only[hP,apC,iG,apP]
  exact⟨h.1,zU h.2 (by simpa[mg] using he) h2⟩
 |(i,.R)::B,C,h,he,h2=>by
  simp only[List.all_cons,apP]at h
  simp only[hP,apC,iG,apP]
  exact⟨h.1,zU h.2 (by simpa[mg] using he) h2⟩
theorem Mx {Q:Act→World→Prop} {j:Nat} {kj:Kd} (hk:kj= .P∨kj= .R) {C:List (Nat×Kd)}:∀{B:List (Nat×Kd)} {a:Act} {w:World},mg B=true→jA ops j kj C B=true→rm P ops Q (B++(j,kj)::C) a w→
  ∃v,RV P ops j v a w∧rm P ops Q (hP B++C) (a.put (zP ops j) v) w
 |[],a,w,_,_,h=>by
  rcases hk with rfl|rfl
  ·obtain⟨v,h1,h2⟩:=h;exact⟨v,h1 w,h2⟩
  ·exact h
 |(_,.A)::B,a,w,he,hp,h=>Mx hk (B:=B) (by simpa[mg] using he) (by simpa[jA] using hp) h.2
 |(_,.E)::B,a,w,he,hp,h=>by simp[mg]at he
 |(b,.P)::B,a,w,he,hp,⟨v,h1,h2⟩=>by
  simp only[jA,lO,apP]at hp
  obtain⟨x,y,e1,e2,f⟩:=ny hp.1.1.1.1
  obtain⟨y',x',e3,e4,f'⟩:=ny hp.1.1.1.2
  rw[e2]at e3;cases e3
  rw[e1]at e4;cases e4
  obtain⟨u,g1,g2⟩:=Mx hk (by simpa[mg] using he) hp.2 h2
  rw[cD e1]at g1 g2
  rw[cD e2]at g2 ⊢
  refine⟨u,g1.pull e2 f,v,fun w'=>(h1 w').push e1 f',?_⟩
  rw[cD e1,←Act.put_comm a v u f.dst]
  exact g2
 |(b,.R)::B,a,w,he,hp,⟨v,h1,h2⟩=>by
  simp only[jA,lO,apP]at hp
  obtain⟨x,y,e1,e2,f⟩:=ny hp.1.1.1.1
  obtain⟨y',x',e3,e4,f'⟩:=ny hp.1.1.1.2
  rw[e2]at e3;cases e3
  rw[e1]at e4;cases e4
  obtain⟨u,g1,g2⟩:=Mx hk (by simpa[mg] using he) hp.2 h2
  rw[cD e1]at g1 g2
  rw[cD e2]at g2 ⊢
  refine⟨u,g1.pull e2 f,v,h1.push e1 f',?_⟩
  rw[cD e1,←Act.put_comm a v u f.dst]
  exact g2
theorem TT {Q:Act→World→Prop} {j:Nat} {C:List (Nat×Kd)}:∀{B:List (Nat×Kd)} {a:Act} {w:World},mg B=true→jA ops j .E C B=true→rm P ops Q (B++(j,.E)::C) a w→op1 P ops j (rm P ops Q (hP B++C)) a w
 |[],a,w,_,_,h=>h
 |(_,.A)::B,a,w,he,hp,h=>TT (B:=B) (by simpa[mg] using he) (by simpa[jA] using hp) h.2
 |(_,.E)::B,a,w,he,hp,h=>by simp[mg]at he
 |(b,.P)::B,a,w,he,hp,⟨v,h1,h2⟩=>by
  simp only[jA,lO,apP]at hp
  obtain⟨x,y,e1,e2,f⟩:=ny hp.1.1.1.1
  obtain⟨y',x',e3,e4,f'⟩:=ny hp.1.1.1.2
  rw[e2]at e3;cases e3
  rw[e1]at e4;cases e4
  have g:=TT (by simpa[mg] using he) hp.2 h2
  rw[cD e1]at g
  refine(KX e2 f g).mono fun a' w' ⟨g1,g2⟩=>⟨v,fun w''=>(h1 w'').sh e1 f' g2,?_⟩
  rw[cD e1];exact g1
 |(b,.R)::B,a,w,he,hp,⟨v,h1,h2⟩=>by
  simp only[jA,lO,apP]at hp
  obtain⟨⟨⟨⟨p1,p2⟩,p3,p4⟩,p5⟩,p6⟩:=hp
  obtain⟨x,y,e1,e2,f⟩:=ny p1
  obtain⟨x',e5,hl,hs⟩:=afW p3
  rw[e1]at e5;cases e5
  have heB:mg B=true:=by simpa[mg] using he
  have g:=TT heB p6 h2
  rw[cD e1]at g
  refine(KX e2 f g).mono fun a' w' ⟨g1,_⟩=> ?_
  obtain⟨u,r1,r2⟩:=zT e1 (zU p5 heB p4) g1
  rw[pc]at r2
  have r3:=r1.self e1 hl hs
  refine⟨u,r3,?_⟩
  rw[cD e1,r2]
  exact g1
def wq (ops:Array Oper) (j:Nat):List Nat:=match ops[j]? with
 |some o=>(o.after.toList.filter (Region.binds .any)).map (·.on)
 |none=>[]
def ju (ops:Array Oper) (ex:List (Nat×Nat)) (j:Nat):List Nat:=wq ops j++(ex.filter fun p=>Nat.beq p.2 j).map (·.1)
def rY (ops:Array Oper) (ex:List (Nat×Nat)):Nat→Nat→Nat→Bool
 |0,_,_=>false
 |f+1,j,b=>(ju ops ex j).any fun k=>Nat.beq k b||rY ops ex f k b
def il (ops:Array Oper) (ex:List (Nat×Nat)) (b:Nat) (kb:Kd):List (Nat×Kd)→Bool
 |[]=>true
 |(_,.A)::r=>il ops ex b kb r
 |(j,kj)::r=> !Nat.beq j b&& !(ju ops ex b).contains j&&(rY ops ex 40 j b||lO ops b kb j kj r)&&(match kb with|.R=>xN ops j b|_=>true)&&il ops ex b kb r
def xu (ops:Array Oper) (ex:List (Nat×Nat)):List (Nat×Kd)→Bool
 |[]=>true
 |(_,.A)::r=>xu ops ex r
 |(b,kb)::r=> !(ju ops ex b).contains b&&il ops ex b kb r&&xu ops ex r
def cnt:List (Nat×Kd)→Nat
 |[]=>0
 |(_,.A)::r=>cnt r
 |_::r=>cnt r+1
def ym (listed:Array Bool) (k:Nat):Prop:=listed.getD k false=true
def aeH (ops:Array Oper) (ex:List (Nat×Nat)) (listed:Array Bool):Prop:=∀k,ym listed k→∀m∈ju ops ex k,ym listed m
section
variable {ex:List (Nat×Nat)}
theorem Mv {listed:Array Bool} (hc:aeH ops ex listed) {b:Nat}:∀(f j:Nat),(∀m∈ju ops ex j,ym listed m)→rY ops ex f j b=true→ym listed b
 |0,_,_,h=>by simp[rY]at h
 |f+1,j,hj,h=>by
  simp only[rY,List.any_eq_true,Bool.or_eq_true]at h
  obtain⟨k,hk,h⟩:=h
  rcases h with h|h
  ·have:=apz h
   subst this;exact hj _ hk
  ·exact Mv hc f k (hc k (hj k hk)) h
theorem agb {listed:Array Bool} {j:Nat} (h:listed.getD j true=false):¬ym listed j:=by
 unfold ym
 rcases Nat.lt_or_ge j listed.size with hl|hl
 ·simp[hl]at h ⊢;exact h
 ·simp[Array.getElem?_eq_none hl]at h
theorem mo (k:Kd):k= .A∨k≠ .A:=by cases k<;>simp
theorem qg {b j:Nat} {kb kj:Kd} {r:List (Nat×Kd)} (hk:kj≠ .A) (h:il ops ex b kb ((j,kj)::r)=true):
  j≠b∧(ju ops ex b).contains j=false∧(rY ops ex 40 j b=true∨lO ops b kb j kj r=true)∧(kb= .R→xN ops j b=true)∧il ops ex b kb r=true:=by
 cases kj
 case A=>exact absurd rfl hk
 all_goals
  simp only[il,apP,Bool.not_eq_true',Bool.or_eq_true]at h
  obtain⟨⟨⟨⟨h1,h2⟩,h3⟩,h4⟩,h5⟩:=h
  refine⟨fun e=>by subst e;simp at h1,h2,h3,fun e=> ?_,h5⟩
  subst e;exact h4
theorem af0 {b j:Nat} {kb kj:Kd} {r:List (Nat×Kd)} (hk:kj≠ .A) (h1:j≠b) (h2:(ju ops ex b).contains j=false) (h3:rY ops ex 40 j b=true∨lO ops b kb j kj r=true) (h4:kb= .R→xN ops j b=true) (h5:il ops ex b kb r=true):
  il ops ex b kb ((j,kj)::r)=true:=by
 have hb:Nat.beq j b=false:=by
  cases e:Nat.beq j b with
  |false=>rfl
  |true=>exact absurd (apz e) h1
 cases kj
 case A=>exact absurd rfl hk
 all_goals
  simp only[il,apP,Bool.not_eq_true',Bool.or_eq_true]
  refine⟨⟨⟨⟨hb,h2⟩,h3⟩,?_⟩,h5⟩
  cases kb<;>first|rfl|exact h4 rfl
theorem oN {b:Nat} {kb:Kd} {r:List (Nat×Kd)} (hk:kb≠ .A) (h:xu ops ex ((b,kb)::r)=true):(ju ops ex b).contains b=false∧il ops ex b kb r=true∧xu ops ex r=true:=by
 cases kb
 case A=>exact absurd rfl hk
 all_goals
  simp only[xu,apP,Bool.not_eq_true']at h
  exact⟨h.1.1,h.1.2,h.2⟩
theorem anw {b:Nat} {kb:Kd} {r:List (Nat×Kd)} (h1:(ju ops ex b).contains b=false) (h2:il ops ex b kb r=true) (h3:xu ops ex r=true):xu ops ex ((b,kb)::r)=true:=by
 cases kb<;>simp only[xu,apP,Bool.not_eq_true']<;>first|exact⟨⟨h1,h2⟩,h3⟩|exact h3
theorem adc {b j:Nat} {kb kj:Kd} {C C':List (Nat×Kd)} (hk:kj≠ .E) (h:lO ops b kb j kj C=true):lO ops b kb j kj C'=true:=by
 unfold lO at h ⊢
 cases kb<;>cases kj<;>first|exact h|exact absurd rfl hk
theorem UP {b:Nat} {kb:Kd} {B:List (Nat×Kd)} (h:mg ((b,kb)::B)=true):kb≠ .E∧mg B=true:=by
 cases kb<;>simp[mg]at h ⊢ <;>exact h
theorem DK {b j:Nat} {kb k:Kd} {C:List (Nat×Kd)}:∀{B:List (Nat×Kd)},mg B=true→il ops ex b kb (B++(j,k)::C)=true→il ops ex b kb (hP B++C)=true
 |[],_,h=>by
  rcases mo k with rfl|hk
  ·exact h
  ·exact(qg hk h).2.2.2.2
 |(i,ki)::B,he,h=>by
  obtain⟨h0,h1⟩:=UP he
  rcases mo ki with rfl|hk
  ·exact DK (B:=B) h1 h
  ·obtain⟨a1,a2,a3,a4,a5⟩:=qg hk h
   have:hP ((i,ki)::B)=(i,ki)::hP B:=by cases ki<;>first|rfl|exact absurd rfl hk
   rw[this]
   exact af0 hk a1 a2 (a3.imp id (adc h0)) a4 (DK h1 a5)
theorem On {j:Nat} {k:Kd} {C:List (Nat×Kd)}:∀{B:List (Nat×Kd)},mg B=true→xu ops ex (B++(j,k)::C)=true→xu ops ex (hP B++C)=true
 |[],_,h=>by
  rcases mo k with rfl|hk
  ·exact h
  ·exact(oN hk h).2.2
 |(i,ki)::B,he,h=>by
  obtain⟨h0,h1⟩:=UP he
  rcases mo ki with rfl|hk
  ·exact On (B:=B) h1 h
  ·obtain⟨a1,a2,a3⟩:=oN hk h
   have:hP ((i,ki)::B)=(i,ki)::hP B:=by cases ki<;>first|rfl|exact absurd rfl hk
   rw[this]
   exact anw a1 (DK h1 a2) (On h1 a3)
theorem KL {b j:Nat} {kb kj:Kd} (hk:kj≠ .A) {C:List (Nat×Kd)}:∀{B:List (Nat×Kd)},il ops ex b kb (B++(j,kj)::C)=true→j≠b∧(rY ops ex 40 j b=true∨lO ops b kb j kj C=true)∧(kb= .R→(B.all fun p=>match p.2 with|.A=>true|_=>xN ops p.1 b)=true)
 |[],h=>by
  obtain⟨a1,a2,a3,a4,a5⟩:=qg hk h
  exact⟨a1,a3,fun _=>rfl⟩
 |(i,ki)::B,h=>by
  rcases mo ki with rfl|hki
  ·obtain⟨b1,b2,b3⟩:=KL hk (B:=B) h
   exact⟨b1,b2,fun e=>by simpa using b3 e⟩
  ·obtain⟨a1,a2,a3,a4,a5⟩:=qg hki h
   obtain⟨b1,b2,b3⟩:=KL hk a5
   refine⟨b1,b2,fun e=> ?_⟩
   rw[List.all_cons,b3 e,Bool.and_true]
   have:=a4 e
   cases ki<;>first|rfl|exact this
theorem En {j:Nat} {kj:Kd} (hk:kj≠ .A) {C:List (Nat×Kd)}:∀{B:List (Nat×Kd)},xu ops ex (B++(j,kj)::C)=true→(∀b kb,(b,kb)∈B→kb≠ .A→rY ops ex 40 j b=false)→
  mg B=true∧jA ops j kj C B=true∧∀b kb,(b,kb)∈B→kb≠ .A→b≠j
 |[],_,_=>⟨rfl,rfl,fun _ _ h=>by simp at h⟩
 |(i,ki)::B,h,hr=>by
  rcases mo ki with rfl|hki
  ·obtain⟨b1,b2,b3⟩:=En hk (B:=B) h fun b kb hm=>hr b kb (by simp[hm])
   exact⟨b1,b2,fun b kb hm hne=>by
    rcases apF.1 hm with e|hm
    ·cases e;exact absurd rfl hne
    ·exact b3 b kb hm hne⟩
  ·obtain⟨a1,a2,a3⟩:=oN hki h
   obtain⟨b1,b2,b3⟩:=En hk a3 fun b kb hm=>hr b kb (by simp[hm])
   obtain⟨c1,c2,c3⟩:=KL hk a2
   have hp:lO ops i ki j kj C=true:=c2.resolve_left (by rw[hr i ki (by simp) hki];decide)
   refine⟨?_,?_,fun b kb hm hne=> ?_⟩
   ·cases ki
    case E=>simp[lO]at hp
    case A=>exact absurd rfl hki
    all_goals exact b1
   ·cases ki
    case A=>exact absurd rfl hki
    case R=>
     have h3:=c3 rfl
     simp only[jA,apP]
     refine⟨⟨hp,?_⟩,b2⟩
     cases kj<;>first|rfl|exact h3
    all_goals
     simp only[jA,apP]
     exact⟨⟨hp,trivial⟩,b2⟩
   ·rcases apF.1 hm with e|hm
    ·cases e;exact c1.symm
    ·exact b3 b kb hm hne
theorem BT {b:Nat} {kb:Kd}:∀{r:List (Nat×Kd)},il ops ex b kb r=true→∀j kj,(j,kj)∈r→kj≠ .A→j≠b∧(ju ops ex b).contains j=false
 |[],_,_,_,hm,_=>by simp at hm
 |(i,ki)::r,h,j,kj,hm,hne=>by
  rcases mo ki with rfl|hki
  ·rcases apF.1 hm with e|hm
   ·cases e;exact absurd rfl hne
   ·exact BT (r:=r) h j kj hm hne
  ·obtain⟨a1,a2,a3,a4,a5⟩:=qg hki h
   rcases apF.1 hm with e|hm
   ·cases e;exact⟨a1,a2⟩
   ·exact BT a5 j kj hm hne
theorem Oo {j:Nat} {kj:Kd} (hk:kj≠ .A) {C:List (Nat×Kd)}:∀{B:List (Nat×Kd)},xu ops ex (B++(j,kj)::C)=true→il ops ex j kj C=true
 |[],h=>(oN hk h).2.1
 |(i,ki)::B,h=>by
  rcases mo ki with rfl|hki
  ·exact Oo hk (B:=B) h
  ·exact Oo hk (oN hki h).2.2
theorem Vh {b:Nat} {kb:Kd} (hk:kb≠ .A):∀{B:List (Nat×Kd)},(b,kb)∈B→(b,kb)∈hP B
 |[],h=>by simp at h
 |(i,ki)::B,h=>by
  rcases apF.1 h with e|h
  ·cases e
   cases kb<;>first|exact absurd rfl hk|simp[hP]
  ·have:=Vh hk h
   cases ki<;>simp[hP,this]
theorem xt {b:Nat} {kb:Kd}:∀{B:List (Nat×Kd)},(b,kb)∈hP B→(b,kb)∈B
 |[],h=>by simp[hP]at h
 |(i,ki)::B,h=>by
  cases ki
  case A=>exact List.mem_cons_of_mem _ (xt (B:=B) h)
  all_goals
   rcases apF.1 (show(b,kb)∈_::hP B from h) with e|h
   ·rw[e];exact List.mem_cons_self
   ·exact List.mem_cons_of_mem _ (xt h)
theorem Zo {j:Nat} {k:Kd} (hk:k≠ .A) {C:List (Nat×Kd)}:∀{B:List (Nat×Kd)},cnt (B++(j,k)::C)=cnt (hP B++C)+1
 |[]=>by cases k<;>first|rfl|exact absurd rfl hk
 |(i,ki)::B=>by
  have:=Zo hk (B:=B) (C:=C) (j:=j)
  cases ki<;>simp only[apC,hP,cnt]<;>omega
theorem Un {Q:Act→World→Prop}:∀{R:List (Nat×Kd)} {a:Act} {w:World},cnt R=0→rm P ops Q R a w→Q a w
 |[],_,_,_,h=>h
 |(_,.A)::R,_,_,hc,h=>Un (R:=R) hc h.2
 |(_,.P)::R,_,_,hc,h=>by simp[cnt]at hc
 |(_,.R)::R,_,_,hc,h=>by simp[cnt]at hc
 |(_,.E)::R,_,_,hc,h=>by simp[cnt]at hc
theorem GA {Q:Exit→Act→World→Prop} (h:op1 P ops i K a w):wpOp P ops Q i K a w:=by
 unfold op1 wpOp at*
 rcases hi:ops[i]? with _|o
 ·simp only[hi]at*;exact h
 simp only[hi]at*
 split
 ·rename_i hw
  simp only[hw,if_true]at h
  rcases h with h|⟨_,hl⟩
  case inr=>exact absurd hl vv
  refine .inl ?_
  unfold Oper.wp at*
  generalize (execOp a.eval o).run P w=r at*
  cases r with
  |ok n w'=>
   cases n<;>simp only[Oper.upon]at h ⊢
   case enter g args=>
    refine Calls.mono h fun e w'' he=> ?_
    cases e with
    |returned u=>exact he
    |panicked c=>exact False.elim he
    |outgrown=>exact absurd he vv
   all_goals exact h
  |halt y w'=>cases y<;>simp only[Oper.upon]at h ⊢;exact False.elim h
 ·rename_i hw
  simp only[hw]at h
  exact h
theorem VZ:∀{R:List (Nat×Kd)},cnt R≠0→∃B b kb C,R=B++(b,kb)::C∧kb≠ .A∧∀x∈B,x.2= .A
 |[],h=>absurd rfl h
 |(i,.A)::R,h=>by
  obtain⟨B,b,kb,C,h1,h2,h3⟩:=VZ (R:=R) h
  exact⟨(i,.A)::B,b,kb,C,by rw[h1];rfl,h2,fun x hx=>by
   rcases apF.1 hx with rfl|hx
   ·rfl
   ·exact h3 x hx⟩
 |(i,.P)::R,_=>⟨[],i,.P,R,rfl,by simp,by simp⟩
 |(i,.R)::R,_=>⟨[],i,.R,R,rfl,by simp,by simp⟩
 |(i,.E)::R,_=>⟨[],i,.E,R,rfl,by simp,by simp⟩
theorem QP {b:Nat} {kb:Kd} (hk:kb≠ .A) {C:List (Nat×Kd)}:∀{B:List (Nat×Kd)},(∀x∈B,x.2= .A)→xu ops ex (B++(b,kb)::C)=true→(ju ops ex b).contains b=false∧il ops ex b kb C=true
 |[],_,h=>⟨(oN hk h).1,(oN hk h).2.1⟩
 |(i,ki)::B,hB,h=>by
  have:ki= .A:=hB (i,ki) (by simp)
  subst this
  exact QP hk (B:=B) (fun x hx=>hB x (by simp[hx])) h
def rP (ops:Array Oper):Nat→Array Bool→List Nat→Prop
 |0,_,r=>r=[]
 |f+1,listed,r=>(Region.ready .any ops listed=[]∧r=[])∨∃i r',i∈Region.ready .any ops listed∧r=i::r'∧rP ops f (listed.setIfInBounds i true) r'
theorem afX:∀(fuel t:Nat) (listed:Array Bool),rP ops fuel listed (Region.linearise.go .any ops fuel t listed []):=by
 intro fuel
 induction fuel with
 |zero=>intro t listed;simp[Region.linearise.go,rP]
 |succ fuel ih=>
  intro t listed
  simp only[Region.linearise.go]
  change rP ops (fuel+1) listed (match (Region.ready .any ops listed)[t % (Region.ready .any ops listed).length]? with
   |some i=>Region.linearise.go .any ops fuel (t / (Region.ready .any ops listed).length) (listed.setIfInBounds i true) [i]
   |none=>[].reverse)
  cases hi:(Region.ready .any ops listed)[t % (Region.ready .any ops listed).length]? with
  |none=>
   have hnil:Region.ready .any ops listed=[]:=by
    cases hr:Region.ready .any ops listed with
    |nil=>rfl
    |cons x xs=>
     rw[hr]at hi
     have hlt:t % (x::xs).length<(x::xs).length:=Nat.mod_lt _ (by simp)
     simp at hi
     simp at hlt
     omega
   exact .inl ⟨hnil,rfl⟩
  |some i=>
   simp only[]
   rw[linearise_go_acc,List.reverse_singleton,List.singleton_append]
   exact .inr ⟨i,_,apA hi,rfl,ih _ _⟩
def Xb (x y:Nat) (r:List Nat):Prop:=∀A B,r=A++y::B→x∈A
theorem aew {x y:Nat} (h:x≠y) (r:List Nat):Xb x y r∨Xb y x r:=by
 by_cases hb:Xb x y r
 ·exact .inl hb
 ·refine .inr fun A' B' hr=> ?_
  unfold Xb at hb
  obtain⟨A,hb⟩:=Classical.not_forall.1 hb
  obtain⟨B,hb⟩:=Classical.not_forall.1 hb
  obtain⟨h1,h2⟩:=Classical.not_imp.1 hb
  rw[h1]at hr
  rcases List.append_eq_append_iff.1 hr with⟨C,e1,e2⟩|⟨C,e1,e2⟩
  ·rw[e1]
   cases C with
   |nil=>simp at e2;exact absurd e2.1 (Ne.symm h)
   |cons c C=>simp at e2;rw[←e2.1];simp
  ·cases C with
   |nil=>simp at e2;exact absurd e2.1 h
   |cons c C=>
    simp at e2
    exact absurd (by rw[e1,←e2.1];simp) h2
theorem ac6 {Q:Exit→Act→World→Prop}:∀(fuel:Nat) (R:List (Nat×Kd)) (listed:Array Bool) (A r:List Nat) (a:Act) (w:World),xu ops ex R=true→aeH ops ex listed→
  (∀j,listed.getD j true=false→∃k,k≠ .A∧(j,k)∈R)→(∀j k,(j,k)∈R→k≠ .A→listed.getD j true=false)→(∀j m,m∈wq ops j→m<listed.size)→(∀j k,(j,k)∈R→k≠ .A→j<ops.size)→cnt R=fuel→
  rP ops fuel listed r→(∀x∈A,ym listed x)→(∀p∈ex,Xb p.1 p.2 (A++r))→rm P ops (fun a w=>Q .normal a w) R a w→wpOps P ops Q r a w:=by
 intro fuel
 induction fuel with
 |zero=>
  intro R listed A r a w hok hcl h1 h3 h6 h7 hc hs hA hB h
  have:r=[]:=hs
  subst this
  exact Un hc h
 |succ fuel ih=>
  intro R listed A r a w hok hcl h1 h3 h6 h7 hc hs hA hB h
  rcases hs with⟨hr,rfl⟩|⟨j,r',hj,rfl,hs⟩
  ·exfalso
   obtain⟨B,b,kb,C,rfl,hk,hB'⟩:=VZ (R:=R) (by omega)
   obtain⟨g1,g2⟩:=QP hk hB' hok
   have hb:=h3 b kb (by simp) hk
   have hlt:=h7 b kb (by simp) hk
   have:b∈Region.ready .any ops listed:=by
    refine mem_ready.2 ⟨hb,ops[b],by simp[hlt],fun e he hbd=> ?_⟩
    have hm:e.on∈wq ops b:=by
     simp only[wq,Array.getElem?_eq_getElem hlt,List.mem_map,List.mem_filter]
     exact⟨e,⟨by simpa using he,hbd⟩,rfl⟩
    have hm2:e.on∈ju ops ex b:=apK.2 (.inl hm)
    have hms:=h6 b _ hm
    rcases hd:listed.getD e.on true with _|_
    ·exfalso
     obtain⟨k',hk',hm'⟩:=h1 _ hd
     rcases apK.1 hm' with q|q
     ·exact hk' (hB' _ q)
     ·rcases apF.1 q with e'|q
      ·injection e' with e1 e2
       rw[e1]at hm2
       rw[List.contains_iff_mem.2 hm2]at g1;cases g1
      ·have:=(BT g2 _ k' q hk').2
       rw[List.contains_iff_mem.2 hm2]at this;cases this
    ·simp[hms]at hd ⊢
     exact hd
   rw[hr]at this
   cases this
  ·obtain⟨hju,oj,hoj,hall⟩:=mem_ready.1 hj
   obtain⟨k,hk,hm⟩:=h1 j hju
   obtain⟨B,C,rfl⟩:=List.append_of_mem hm
   have hjw:∀m∈ju ops ex j,ym listed m:=by
    intro m hm
    rcases apK.1 hm with hm|hm
    ·simp only[wq,hoj,List.mem_map,List.mem_filter]at hm
     obtain⟨e,⟨he,hb⟩,rfl⟩:=hm
     exact hall e (by simpa using he) hb
    ·simp only[List.mem_map,List.mem_filter]at hm
     obtain⟨p,⟨hp,hb⟩,rfl⟩:=hm
     have hb:=apz hb
     exact hA _ (hB p hp A r' (by rw[hb]))
   obtain⟨c1,c2,c3⟩:=En hk hok fun b kb hb hne=>by
    rcases hr:rY ops ex 40 j b with _|_
    ·rfl
    ·exact absurd (Mv hcl 40 j hjw hr) (agb (h3 b kb (by simp[hb]) hne))
   have hop:op1 P ops j (rm P ops (fun a w=>Q .normal a w) (hP B++C)) a w:=by
    cases k
    case A=>exact absurd rfl hk
    case E=>exact TT c1 c2 h
    case P=>
     obtain⟨v,v1,v2⟩:=Mx (.inl rfl) c1 c2 h
     exact v1.to v2
    case R=>
     obtain⟨v,v1,v2⟩:=Mx (.inr rfl) c1 c2 h
     exact v1.to v2
   rw[wpOps_cons]
   refine GA (hop.mono fun a' w' h'=> ?_)
   have hmid:=Oo hk hok
   refine ih (hP B++C) _ (A++[j]) r' a' w' (On c1 hok) ?_ ?_ ?_ ?_ ?_ ?_ hs ?_ ?_ h'
   ·intro i hi m hm
    by_cases hij:j=i
    ·subst hij;exact getD_set_true (hjw m hm)
    ·unfold ym at hi
     rw[getD_set_ne false hij]at hi
     exact getD_set_true (hcl i hi m hm)
   ·intro i hi
    by_cases hij:j=i
    ·subst hij
     rcases Nat.lt_or_ge j listed.size with hl|hl
     ·simp[hl]at hi
     ·simp[Array.getElem?_eq_none hl]at hju
    ·rw[getD_set_ne true hij]at hi
     obtain⟨k',hk',hm'⟩:=h1 i hi
     refine⟨k',hk',apK.2 ?_⟩
     rcases apK.1 hm' with q|q
     ·exact .inl (Vh hk' q)
     ·rcases apF.1 q with e|q
      ·cases e;exact absurd rfl hij
      ·exact .inr q
   ·intro i k' hm' hk'
    have hmem:(i,k')∈B++(j,k)::C∧i≠j:=by
     rcases apK.1 hm' with q|q
     ·exact⟨apK.2 (.inl (xt q)),c3 i k' (xt q) hk'⟩
     ·exact⟨apK.2 (.inr (List.mem_cons_of_mem _ q)),(BT hmid i k' q hk').1⟩
    rw[getD_set_ne true (fun e=>hmem.2 e.symm)]
    exact h3 i k' hmem.1 hk'
   ·intro i m hm
    rw[Array.size_setIfInBounds]
    exact h6 i m hm
   ·intro i k' hm' hk'
    refine h7 i k' ?_ hk'
    rcases apK.1 hm' with q|q
    ·exact apK.2 (.inl (xt q))
    ·exact apK.2 (.inr (List.mem_cons_of_mem _ q))
   ·rw[Zo hk]at hc
    omega
   ·intro x hx
    rcases apK.1 hx with hx|hx
    ·exact getD_set_true (hA x hx)
    ·simp at hx
     subst hx
     unfold ym
     rcases Nat.lt_or_ge x listed.size with hl|hl
     ·simp[hl]
     ·simp[Array.getElem?_eq_none hl]at hju
   ·intro p hp
    rw[List.append_assoc]
    exact hB p hp
end
def abp (ops:Array Oper) (ex:List (Nat×Nat)) (n:Nat) (R:List (Nat×Kd)):Bool:=
 Nat.beq ops.size n&&Nat.beq (cnt R) n&&xu ops ex R&&((List.range n).all fun j=>R.any fun p=>Nat.beq p.1 j&&(match p.2 with|.A=>false|_=>true))&&(R.all fun p=>Nat.blt p.1 n)&&((List.range n).all fun j=>(wq ops j).all fun m=>Nat.blt m n)
inductive Tr|leaf (R:List (Nat×Kd))|split (x y:Nat) (s t:Tr)
def Gr (ops:Array Oper) (n:Nat):List (Nat×Nat)→Tr→Bool
 |ex,.leaf R=>abp ops ex n R
 |ex,.split x y s t=> !Nat.beq x y&&Gr ops n ((x,y)::ex) s&&Gr ops n ((y,x)::ex) t
def Um (P:Program) (ops:Array Oper) (Q:Act→World→Prop) (a:Act) (w:World):Tr→Prop
 |.leaf R=>rm P ops Q R a w
 |.split _ _ s t=>Um P ops Q a w s∧Um P ops Q a w t
theorem aj0 {Q:Exit→Act→World→Prop} {ex:List (Nat×Nat)} {n:Nat} {R:List (Nat×Kd)} (hp:abp ops ex n R=true) {r:List Nat} (hs:rP ops ops.size (Array.replicate ops.size false) r) (hb:∀p∈ex,Xb p.1 p.2 r) {a:Act} {w:World}
  (h:rm P ops (fun a w=>Q .normal a w) R a w):wpOps P ops Q r a w:=by
 unfold abp at hp
 simp only[apP]at hp
 obtain⟨⟨⟨⟨⟨p1,p2⟩,p3⟩,p4⟩,p5⟩,p6⟩:=hp
 have p1:=apz p1
 have p2:=apz p2
 refine ac6 ops.size R _ [] r a w p3 (fun k hk=> ?_) (fun j hj=> ?_) (fun j k hjk _=> ?_) (fun j m hmw=> ?_) (fun j k hjk _=> ?_) (by omega) hs (by simp) hb h
 ·unfold ym at hk
  rcases Nat.lt_or_ge k ops.size with q|q
  ·simp[q]at hk
  ·simp[Array.getElem?_eq_none,q]at hk
 ·have hlt:j<ops.size:=by
   rcases Nat.lt_or_ge j ops.size with q|q
   ·exact q
   ·simp[Array.getElem?_eq_none,q]at hj
  have:=List.all_eq_true.1 p4 j (by simp;omega)
  obtain⟨⟨b,k⟩,hb,hq⟩:=List.any_eq_true.1 this
  simp only[apP]at hq
  have hbj:=apz hq.1
  subst hbj
  exact⟨k,fun e=>by subst e;simp at hq,hb⟩
 ·have:=List.all_eq_true.1 p5 _ hjk
  simp only[apV]at this
  have hlt:j<ops.size:=by omega
  simp[hlt]
 ·rw[Array.size_replicate]
  rcases Nat.lt_or_ge j ops.size with q|q
  ·have:=List.all_eq_true.1 (List.all_eq_true.1 p6 j (by simp;omega)) m hmw
   simp only[apV]at this
   omega
  ·simp[wq,Array.getElem?_eq_none,q]at hmw
 ·have:=List.all_eq_true.1 p5 _ hjk
  simp only[apV]at this
  omega
theorem NW {Q:Exit→Act→World→Prop} {n:Nat} {r:List Nat} (hs:rP ops ops.size (Array.replicate ops.size false) r) {a:Act} {w:World}:∀(t:Tr) (ex:List (Nat×Nat)),Gr ops n ex t=true→(∀p∈ex,Xb p.1 p.2 r)→Um P ops (fun a w=>Q .normal a w) a w t→wpOps P ops Q r a w
 |.leaf R,ex,hp,hb,h=>aj0 hp hs hb h
 |.split x y s t,ex,hp,hb,⟨h1,h2⟩=>by
  simp only[Gr,apP,Bool.not_eq_true']at hp
  obtain⟨⟨p1,p2⟩,p3⟩:=hp
  have hne:x≠y:=fun e=>by subst e;simp at p1
  rcases aew hne r with q|q
  ·exact NW hs s _ p2 (fun p hp=>by rcases apF.1 hp with rfl|hp<;>first|exact q|exact hb p hp) h1
  ·exact NW hs t _ p3 (fun p hp=>by rcases apF.1 hp with rfl|hp<;>first|exact q|exact hb p hp) h2
theorem NP {Q:Exit→Act→World→Prop} {id:Nat} (hm:P.follows .mixedOrders=true) (n:Nat) (t:Tr) (hp:Gr ops n [] t=true) (h:Um P ops (fun a w=>Q .normal a w) a {w with drawn:=w.drawn+1} t):(Code.region id ops true).wp P Q a w:=
 wp_region_draw fun k=>by
  simp only[Region.schedule,hm,Bool.true_or,if_true]
  exact NW (afX ops.size k _) t [] hp (by simp) h
end
section
variable {H:Type} {enc:TypeId×Value→H} {P:Program} {w:World} {base:Nat} {spare:Nat→Bool} {held:Bool}
end
end Go.Eng
namespace Go.Sy
open Go Go.RowKit Go.Eng
structure Env where
 at_:Nat→Value
 M:re
instance:CoeFun Env (fun _=>Nat→Value):=⟨Env.at_⟩
noncomputable def aN (p:Prop):Bool:= @decide p (Classical.propDecidable p)
theorem prB_true {p:Prop}:aN p=true↔p:=by simp[aN]
theorem prB_false {p:Prop}:aN p=false↔¬p:=by simp[aN]
theorem pg (p:Prop) [Decidable p]:aN p=decide p:=by
 rw[Bool.eq_iff_iff,prB_true,decide_eq_true_eq]
theorem wy (b:Bool):aN (b=true)=b:=by cases b<;>simp[aN]
inductive PL:Type 1
 |int (k:Nat) (z:Int)|bool (b:Bool)|str (l:List Nat)|nilP|nilS|nilM|nilF|nilI
 |sint (k:Nat) (z:Int)|sbool (p:Prop)|sstr (l:List UInt8)
 |imm (h:Value) (sz:Nat) (α:Type) (l:List α) (enc:α→List PL)
inductive SY:Type 1
 |int (k:Nat) (z:Int)|bool (p:Prop)|str (l:List UInt8)|imm (h:Value) (sz:Nat) (α:Type) (l:List α) (enc:α→List PL)
 |pim (b o:Nat) (cs:List PL)|prow (i n:Nat)|psub (i sz a n o:Nat) (c:Option Nat)|rptr (i sz e o:Nat)|pfix (i n c:Nat)|kmp (i:Nat)
inductive ACap|ex (n:Nat)|rest (k:Nat)
inductive AV:Type 1
 |bad
 |int (k:Nat) (z:Int)|bool (b:Bool)|str (l:List Nat)|ptr (i o:Nat)|sl (i o n:Nat) (c:ACap)|map (i:Nat)
 |nilP|nilS|nilM|nilF|nilI|iface (t:Nat) (v:AV)|fn (f:Nat) (c:List AV)|yl (i:Nat)
 |agg (l:List AV)|tup (l:List AV)|any (i:Nat)|sy (s:SY)
def cR:Nat→IntKind
 |0=>.i64|1=>.u8|2=>.u16|3=>.u32|4=>.u64|5=>.i32|6=>.i16|_=>.i8
noncomputable def bw:PL→Value
 |.int k z=>.int (cR k) z
 |.bool b=>.bool b
 |.str l=>S (l.map UInt8.ofNat)
 |.nilP=>.pointer none
 |.nilS=>.slice none 0 0
 |.nilM=>.map none
 |.nilF=>.nilFunc
 |.nilI=>.nilIface
 |.sint k z=>.int (cR k) z
 |.sbool p=>.bool (aN p)
 |.sstr l=>S l
 |.imm h _ _ _ _=>h
inductive OkP (M:re):PL→Prop
 |int (k:Nat) (z:Int):OkP M (.int k z)
 |bool (b:Bool):OkP M (.bool b)
 |str (l:List Nat):OkP M (.str l)
 |nilP:OkP M .nilP
 |nilS:OkP M .nilS
 |nilM:OkP M .nilM
 |nilF:OkP M .nilF
 |nilI:OkP M .nilI
 |sint (k:Nat) (z:Int):OkP M (.sint k z)
 |sbool (p:Prop):OkP M (.sbool p)
 |sstr (l:List UInt8):OkP M (.sstr l)
 |imm {h:Value} {sz:Nat} {α:Type} {l:List α} {enc:α→List PL} (ao:Option Addr) (cap:Nat) (hh:h= .slice ao l.length cap) (h1:l.length≤cap) (h2:cap≤maxLen) (h3:0<sz)
   (ha:0<l.length→ao=some ⟨blk ao,AY ao,none⟩) (hl:∀x∈l,(enc x).length=sz) (ho:∀x∈l,∀p∈enc x,OkP M p)
   (hr:∀i x,l[i]?=some x→MRow M (blk ao) (AY ao+i*sz) ((enc x).map bw)):OkP M (.imm h sz α l enc)
def MLe (M M':re):Prop:=∀b o,M b=some o→M' b=some o
theorem MLe.refl (M:re):MLe M M:=fun _ _ h=>h
theorem MLe.trans {a b c:re} (h:MLe a b) (k:MLe b c):MLe a c:=fun x o e=>k x o (h x o e)
theorem agj {M M':re} (h:MLe M M') {b o:Nat} {v:Value} (hm:ou M b o=some v):ou M' b o=some v:=by
 unfold ou at hm ⊢
 rcases e:M b with _|ob
 ·simp[e]at hm
 ·rw[h b ob e];rw[e]at hm;exact hm
theorem MRow.le {M M':re} (h:MLe M M') {b o:Nat} {cs:List Value} (hm:MRow M b o cs):MRow M' b o cs:=fun j v hv=>agj h (hm j v hv)
theorem OkP.mono {M M':re} (h:MLe M M') {p:PL} (hp:OkP M p):OkP M' p:=by
 induction hp with
 |imm ao cap hh h1 h2 h3 ha hl ho hr ih=>exact .imm ao cap hh h1 h2 h3 ha hl ih (fun i x hx=>MRow.le h (hr i x hx))
 |int k z=>exact .int k z
 |bool b=>exact .bool b
 |str l=>exact .str l
 |nilP=>exact .nilP
 |nilS=>exact .nilS
 |nilM=>exact .nilM
 |nilF=>exact .nilF
 |nilI=>exact .nilI
 |sint k z=>exact .sint k z
 |sbool p=>exact .sbool p
 |sstr l=>exact .sstr l
open Classical in
noncomputable def ji (E:Env) (p:PL):Option Value:=if OkP E.M p then some (bw p) else none
open Classical in
noncomputable def tp (E:Env) (ps:List PL):Option (List Value):=if ∀p∈ps,OkP E.M p then some (ps.map bw) else none
theorem iE {E:Env} {p:PL} {x:Value} (h:ji E p=some x):OkP E.M p∧x=bw p:=by
 unfold ji at h
 split at h
 ·exact⟨‹_›,(apT h).symm⟩
 ·cases h
theorem vt {E:Env} {p:PL} (h:OkP E.M p):ji E p=some (bw p):=by simp[ji,h]
theorem CH {E:Env} {ps:List PL} {xs:List Value} (h:tp E ps=some xs):(∀p∈ps,OkP E.M p)∧xs=ps.map bw:=by
 unfold tp at h
 split at h
 ·exact⟨‹_›,(apT h).symm⟩
 ·cases h
theorem oV {E:Env} {ps:List PL} (h:∀p∈ps,OkP E.M p):tp E ps=some (ps.map bw):=by unfold tp;rw[if_pos h]
structure eT where
 b:Nat
 cap:Nat
abbrev Ren:=Nat→Option eT
def Ren.Le (ρ ρ':Ren):Prop:=∀i e,ρ i=some e→ρ' i=some e
theorem Ren.Le.refl (ρ:Ren):ρ.Le ρ:=fun _ _ h=>h
theorem Ren.Le.trans {a b c:Ren} (h:a.Le b) (k:b.Le c):a.Le c:=fun i e he=>k i e (h i e he)
def Ren.set (ρ:Ren) (i:Nat) (e:eT):Ren:=fun j=>if j=i then some e else ρ j
theorem Ren.le_set {ρ:Ren} {i:Nat} (e:eT) (h:ρ i=none):ρ.Le (ρ.set i e):=by
 intro j f hj
 unfold Ren.set
 split
 ·rename_i hji;subst hji;rw[h]at hj;cases hj
 ·exact hj
theorem Ren.set_self (ρ:Ren) (i:Nat) (e:eT):ρ.set i e i=some e:=by simp[Ren.set]
theorem Ren.set_ne {ρ:Ren} {i j:Nat} (e:eT) (h:j≠i):ρ.set i e j=ρ j:=by simp[Ren.set,h]
def df (e:eT):ACap→Nat
 |.ex n=>n
 |.rest k=>e.cap - k
def ub (e:eT) (n:Nat):Option Value:=match e.cap with
 |0=>if n=0 then some (.slice none 0 0) else none
 |c+1=>some (.slice (some ⟨e.b,0,none⟩) n c)
def uc (e:eT) (n c:Nat):Option Value:=match e.cap with
 |0=>if n=0∧c=0 then some (.slice none 0 0) else none
 |_+1=>some (.slice (some ⟨e.b,0,none⟩) n c)
def nP (e:eT) (sz a n o:Nat) (oc:Option Nat):Option Value:=match e.cap with
 |0=>if n=0∧a=0∧(∀q,oc=some q→q=0) then some (.slice none 0 0) else none
 |c+1=>if a+n≤c∧(∀q,oc=some q→q=c) then some (.slice (some ⟨e.b,if c=a then o else a*sz,none⟩) n (c - a)) else none
open Classical in
noncomputable def bo (E:Env) (ρ:Ren):SY→Option Value
 |.int k z=>some (.int (cR k) z)
 |.bool p=>some (.bool (aN p))
 |.str l=>some (S l)
 |.imm h sz α l enc=>ji E (.imm h sz α l enc)
 |.pim b o cs=>if (∀p∈cs,OkP E.M p)∧MRow E.M b o (cs.map bw) then some (.pointer (some ⟨b,o,none⟩)) else none
 |.prow i n=>match ρ i with|some e=>ub e n|none=>none
 |.psub i sz a n o oc=>match ρ i with|some e=>nP e sz a n o oc|none=>none
 |.pfix i n c=>match ρ i with|some e=>uc e n c|none=>none
 |.rptr i sz q o=>match ρ i with|some e=>some (.pointer (some ⟨e.b,q*sz+o,none⟩))|none=>none
 |.kmp i=>match ρ i with|some e=>some (.map (bif Nat.beq e.cap 0 then none else some e.b))|none=>none
mutual
noncomputable def den (E:Env) (ρ:Ren):AV→Option Value
 |.bad=>none
 |.int k z=>some (.int (cR k) z)
 |.bool b=>some (.bool b)
 |.str l=>some (S (l.map UInt8.ofNat))
 |.ptr i o=>match ρ i with|some e=>some (.pointer (some ⟨e.b,o,none⟩))|none=>none
 |.sl i o n c=>match ρ i with|some e=>some (.slice (some ⟨e.b,o,none⟩) n (df e c))|none=>none
 |.map i=>match ρ i with|some e=>some (.map (some e.b))|none=>none
 |.nilP=>some (.pointer none)
 |.nilS=>some (.slice none 0 0)
 |.nilM=>some (.map none)
 |.nilF=>some .nilFunc
 |.nilI=>some .nilIface
 |.iface t v=>match den E ρ v with|some x=>some (.iface t x)|none=>none
 |.fn f c=>match aS E ρ c with|some cs=>some (.func (.func f) #[] cs.toArray)|none=>none
 |.yl i=>match ρ i with|some e=>some (.func (.yield e.b) #[] #[])|none=>none
 |.agg l=>match aS E ρ l with|some cs=>some (.agg cs.toArray)|none=>none
 |.tup l=>match aS E ρ l with|some cs=>some (.tuple cs.toArray)|none=>none
 |.any i=>match ρ i with|some _=>some (E i)|none=>none
 |.sy s=>bo E ρ s
noncomputable def aS (E:Env) (ρ:Ren):List AV→Option (List Value)
 |[]=>some []
 |v::r=>match den E ρ v with
  |some x=>match aS E ρ r with
   |some xs=>some (x::xs)
   |none=>none
  |none=>none
end
section
variable {E:Env} {ρ ρ':Ren}
theorem cE {v:AV} {r:List AV} {ys:List Value} (h:aS E ρ (v::r)=some ys):∃x xs,den E ρ v=some x∧aS E ρ r=some xs∧ys=x::xs:=by
 unfold aS at h
 split at h
 ·rename_i x hx
  split at h
  ·rename_i xs hxs
   exact⟨x,xs,hx,hxs,(apT h).symm⟩
  ·cases h
 ·cases h
theorem lG {v:AV} {r:List AV} {x:Value} {xs:List Value} (h1:den E ρ v=some x) (h2:aS E ρ r=some xs):aS E ρ (v::r)=some (x::xs):=by
 simp[aS,h1,h2]
theorem ael (hl:ρ.Le ρ'):∀(s:SY) (x:Value),bo E ρ s=some x→bo E ρ' s=some x
 |.int k z,x,h=>h
 |.bool p,x,h=>h
 |.str l,x,h=>h
 |.imm ..,x,h=>h
 |.pim ..,x,h=>h
 |.prow i n,x,h=>by
  simp only[bo]at h ⊢
  rcases e:ρ i with _|e'
  ·rw[e]at h;cases h
  ·rw[e]at h;rw[hl i e' e];exact h
 |.psub i sz a n o oc,x,h=>by
  simp only[bo]at h ⊢
  rcases e:ρ i with _|e'
  ·rw[e]at h;cases h
  ·rw[e]at h;rw[hl i e' e];exact h
 |.pfix i n c,x,h=>by
  simp only[bo]at h ⊢
  rcases e:ρ i with _|e'
  ·rw[e]at h;cases h
  ·rw[e]at h;rw[hl i e' e];exact h
 |.kmp i,x,h=>by
  simp only[bo]at h ⊢
  rcases e:ρ i with _|e'
  ·rw[e]at h;cases h
  ·rw[e]at h;rw[hl i e' e];exact h
 |.rptr i sz q o,x,h=>by
  simp only[bo]at h ⊢
  rcases e:ρ i with _|e'
  ·rw[e]at h;cases h
  ·rw[e]at h;rw[hl i e' e];exact h
mutual
theorem jh (hl:ρ.Le ρ'):∀(v:AV) (x:Value),den E ρ v=some x→den E ρ' v=some x
 |.bad,x,h=>by simp[den]at h
 |.int k z,x,h=>by simpa[den] using h
 |.bool b,x,h=>by simpa[den] using h
 |.str l,x,h=>by simpa[den] using h
 |.nilP,x,h=>by simpa[den] using h
 |.nilS,x,h=>by simpa[den] using h
 |.nilM,x,h=>by simpa[den] using h
 |.nilF,x,h=>by simpa[den] using h
 |.nilI,x,h=>by simpa[den] using h
 |.ptr i o,x,h=>by
  unfold den at h ⊢
  rcases e:ρ i with _|e'
  ·rw[e]at h;cases h
  ·rw[e]at h;rw[hl i e' e];exact h
 |.sl i o n c,x,h=>by
  unfold den at h ⊢
  rcases e:ρ i with _|e'
  ·rw[e]at h;cases h
  ·rw[e]at h;rw[hl i e' e];exact h
 |.map i,x,h=>by
  unfold den at h ⊢
  rcases e:ρ i with _|e'
  ·rw[e]at h;cases h
  ·rw[e]at h;rw[hl i e' e];exact h
 |.yl i,x,h=>by
  unfold den at h ⊢
  rcases e:ρ i with _|e'
  ·rw[e]at h;cases h
  ·rw[e]at h;rw[hl i e' e];exact h
 |.any i,x,h=>by
  unfold den at h ⊢
  rcases e:ρ i with _|e'
  ·rw[e]at h;cases h
  ·rw[e]at h;rw[hl i e' e];exact h
 |.sy s,x,h=>by
  unfold den at h ⊢
  exact ael hl s x h
 |.iface t v,x,h=>by
  unfold den at h ⊢
  rcases e:den E ρ v with _|y
  ·rw[e]at h;cases h
  ·rw[e]at h;rw[jh hl v y e];exact h
 |.fn f c,x,h=>by
  unfold den at h ⊢
  rcases e:aS E ρ c with _|y
  ·rw[e]at h;cases h
  ·rw[e]at h;rw[tT hl c y e];exact h
 |.agg c,x,h=>by
  unfold den at h ⊢
  rcases e:aS E ρ c with _|y
  ·rw[e]at h;cases h
  ·rw[e]at h;rw[tT hl c y e];exact h
 |.tup c,x,h=>by
  unfold den at h ⊢
  rcases e:aS E ρ c with _|y
  ·rw[e]at h;cases h
  ·rw[e]at h;rw[tT hl c y e];exact h
theorem tT (hl:ρ.Le ρ'):∀(l:List AV) (xs:List Value),aS E ρ l=some xs→aS E ρ' l=some xs
 |[],xs,h=>by simpa[aS] using h
 |v::r,xs,h=>by
  obtain⟨x,ys,h1,h2,rfl⟩:=cE h
  exact lG (jh hl v x h1) (tT hl r ys h2)
end
structure Kx (ρ:Ren) (E E':Env):Prop where
 at_:∀i e,ρ i=some e→E' i=E i
 mem:MLe E.M E'.M
theorem agH {E':Env} (hE:MLe E.M E'.M) {p:PL} {x:Value} (h:ji E p=some x):ji E' p=some x:=by
 obtain⟨h1,rfl⟩:=iE h
 exact vt (h1.mono hE)
theorem aem {E':Env} (hE:MLe E.M E'.M) {ps:List PL} {xs:List Value} (h:tp E ps=some xs):tp E' ps=some xs:=by
 obtain⟨h1,rfl⟩:=CH h
 exact oV fun p hp=>(h1 p hp).mono hE
theorem agF {E':Env} (hE:MLe E.M E'.M):∀(s:SY) (x:Value),bo E ρ s=some x→bo E' ρ s=some x
 |.int k z,x,h=>h
 |.bool p,x,h=>h
 |.str l,x,h=>h
 |.imm ..,x,h=>agH hE h
 |.pim b o cs,x,h=>by
  simp only[bo]at h ⊢
  split at h
  ·rename_i hc
   rw[if_pos ⟨fun p hp=>(hc.1 p hp).mono hE,MRow.le hE hc.2⟩];exact h
  ·cases h
 |.prow i n,x,h=>h
 |.psub ..,x,h=>h
 |.rptr ..,x,h=>h
 |.pfix ..,x,h=>h
 |.kmp _,x,h=>h
mutual
theorem pj {E':Env} (hE:Kx ρ E E'):∀(v:AV) (x:Value),den E ρ v=some x→den E' ρ v=some x
 |.bad,_,h=>by simp[den]at h
 |.int _ _,_,h|.bool _,_,h|.str _,_,h|.nilP,_,h|.nilS,_,h|.nilM,_,h|.nilF,_,h|.nilI,_,h|.ptr _ _,_,h|.sl _ _ _ _,_,h|.map _,_,h|.yl _,_,h=>by simpa[den] using h
 |.any i,x,h=>by
  unfold den at h ⊢
  rcases e:ρ i with _|e'
  ·rw[e]at h;cases h
  ·rw[e]at h;rw[hE.at_ i e' e];exact h
 |.sy s,x,h=>by
  unfold den at h ⊢
  exact agF hE.mem s x h
 |.iface t v,x,h=>by
  unfold den at h ⊢
  rcases e:den E ρ v with _|y
  ·rw[e]at h;cases h
  ·rw[e]at h;rw[pj hE v y e];exact h
 |.fn f c,x,h=>by
  unfold den at h ⊢
  rcases e:aS E ρ c with _|y
  ·rw[e]at h;cases h
  ·rw[e]at h;rw[xS hE c y e];exact h
 |.agg c,x,h=>by
  unfold den at h ⊢
  rcases e:aS E ρ c with _|y
  ·rw[e]at h;cases h
  ·rw[e]at h;rw[xS hE c y e];exact h
 |.tup c,x,h=>by
  unfold den at h ⊢
  rcases e:aS E ρ c with _|y
  ·rw[e]at h;cases h
  ·rw[e]at h;rw[xS hE c y e];exact h
theorem xS {E':Env} (hE:Kx ρ E E'):∀(l:List AV) (xs:List Value),aS E ρ l=some xs→aS E' ρ l=some xs
 |[],xs,h=>by simpa[aS] using h
 |v::r,xs,h=>by
  obtain⟨x,ys,h1,h2,rfl⟩:=cE h
  exact lG (pj hE v x h1) (xS hE r ys h2)
end
theorem cL:∀{l:List AV} {xs:List Value},aS E ρ l=some xs→xs.length=l.length
 |[],xs,h=>by simp[aS]at h;subst h;rfl
 |v::r,xs,h=>by
  obtain⟨x,ys,h1,h2,rfl⟩:=cE h
  simp[cL h2]
theorem eD:∀{l m:List AV} {xs ys:List Value},aS E ρ l=some xs→aS E ρ m=some ys→aS E ρ (l++m)=some (xs++ys)
 |[],m,xs,ys,h,h2=>by simp[aS]at h;subst h;simpa using h2
 |v::r,m,xs,ys,h,h2=>by
  obtain⟨x,zs,h3,h4,rfl⟩:=cE h
  exact lG h3 (eD h4 h2)
theorem ff:∀{l m:List AV} {zs:List Value},aS E ρ (l++m)=some zs→∃xs ys,aS E ρ l=some xs∧aS E ρ m=some ys∧zs=xs++ys
 |[],m,zs,h=>⟨[],zs,by simp[aS],by simpa using h,by simp⟩
 |v::r,m,zs,h=>by
  obtain⟨x,ws,h3,h4,rfl⟩:=cE (r:=r++m) h
  obtain⟨xs,ys,h5,h6,rfl⟩:=ff h4
  exact⟨x::xs,ys,lG h3 h5,h6,rfl⟩
theorem rO:∀{l:List AV} {xs:List Value} {i:Nat} {v:AV},aS E ρ l=some xs→l[i]?=some v→∃x,den E ρ v=some x∧xs[i]?=some x
 |[],xs,i,v,h,hi=>by simp at hi
 |u::r,xs,0,v,h,hi=>by
  obtain⟨x,ys,h1,h2,rfl⟩:=cE h
  simp at hi;subst hi
  exact⟨x,h1,rfl⟩
 |u::r,xs,i+1,v,h,hi=>by
  obtain⟨x,ys,h1,h2,rfl⟩:=cE h
  obtain⟨y,h3,h4⟩:=rO h2 (by simpa using hi)
  exact⟨y,h3,by simpa using h4⟩
theorem tS {l:List AV} {xs:List Value} (n:Nat) (h:aS E ρ l=some xs):aS E ρ (l.take n)=some (xs.take n):=by
 have h':=h
 rw[←List.take_append_drop n l]at h'
 obtain⟨a,b,h1,h2,rfl⟩:=ff h'
 have:=cL h1
 have h3:=cL h
 rw[h1]
 by_cases hn:n≤l.length
 ·rw[apL,Nat.min_eq_left hn]at this
  rw[List.take_left' this]
 ·rw[List.drop_eq_nil_of_le (by omega)]at h2
  simp[aS]at h2
  subst h2
  simp only[List.append_nil]at h3 ⊢
  rw[List.take_of_length_le (by omega)]
theorem pm {l:List AV} {xs:List Value} (n:Nat) (h:aS E ρ l=some xs):aS E ρ (l.drop n)=some (xs.drop n):=by
 have h':=h
 rw[←List.take_append_drop n l]at h'
 obtain⟨a,b,h1,h2,rfl⟩:=ff h'
 have:=cL h1
 have h3:=cL h
 rw[h2]
 by_cases hn:n≤l.length
 ·rw[apL,Nat.min_eq_left hn]at this
  rw[List.drop_left' this]
 ·have h4:b=[]:=by
   rw[List.drop_eq_nil_of_le (by omega)]at h2
   simpa[aS] using h2.symm
  subst h4
  simp only[List.append_nil]at h3 ⊢
  rw[List.drop_eq_nil_of_le (by omega)]
end
section
variable {E:Env} {ρ:Ren}
noncomputable def HP (p:PL):AV:=PL.casesOn p (fun k z=>.int k z) (fun b=>.bool b) (fun l=>.str l) .nilP .nilS .nilM .nilF .nilI (fun k z=>.sy (.int k z)) (fun p=>.sy (.bool p)) (fun l=>.sy (.str l)) (fun h sz α l enc=>.sy (.imm h sz α l enc))
theorem Yw {p:PL} (h:OkP E.M p):den E ρ (HP p)=some (bw p):=by
 cases p with
 |imm=>exact vt h
 |_=>rfl
noncomputable def tY (l:List PL):List AV:=List.rec [] (fun p _ ih=>HP p::ih) l
theorem Vi:∀{l:List PL},(∀p∈l,OkP E.M p)→aS E ρ (tY l)=some (l.map bw)
 |[],_=>rfl
 |p::l,h=>lG (Yw (h p (by simp))) (Vi fun q hq=>h q (by simp[hq]))
end
noncomputable def dT (ag:Bool) (ps:List PL):AV:=bif ag then .agg (tY ps) else HP (ps.headD .nilP)
theorem Yx {E E':Env} {ρ ρ':Ren} (hM:E'.M=E.M) {p:PL} {x:Value} (h:den E ρ (HP p)=some x):den E' ρ' (HP p)=some x:=by
 cases p with
 |imm hv sz α l enc=>
  have h:ji E (.imm hv sz α l enc)=some x:=h
  show ji E' (.imm hv sz α l enc)=some x
  unfold ji at h ⊢
  rw[hM];exact h
 |_=>exact h
theorem Vj {E E':Env} {ρ ρ':Ren} (hM:E'.M=E.M):∀{l:List PL} {xs:List Value},aS E ρ (tY l)=some xs→aS E' ρ' (tY l)=some xs
 |[],xs,h=>h
 |p::l,xs,h=>by
  have h:aS E ρ (HP p::tY l)=some xs:=h
  show aS E' ρ' (HP p::tY l)=some xs
  unfold aS at h ⊢
  rcases h1:den E ρ (HP p) with _|y
  ·simp[h1]at h
  rcases h2:aS E ρ (tY l) with _|ys
  ·simp[h1,h2]at h
  rw[Yx hM h1,Vj hM h2]
  rw[h1,h2]at h
  exact h
theorem VH {E E':Env} {ρ ρ':Ren} (hM:E'.M=E.M) {ag:Bool} {ps:List PL} {x:Value} (h:den E ρ (dT ag ps)=some x):den E' ρ' (dT ag ps)=some x:=by
 cases ag with
 |false=>exact Yx hM h
 |true=>
  have h:den E ρ (.agg (tY ps))=some x:=h
  show den E' ρ' (.agg (tY ps))=some x
  unfold den at h ⊢
  rcases h2:aS E ρ (tY ps) with _|ys
  ·simp[h2]at h
  rw[Vj hM h2]
  rw[h2]at h
  exact h
inductive AObj:Type 1
 |blk (grow:Bool) (T sz:Nat) (els:List (List AV))
 |map (es:List (AV×AV×Nat)) (clock:Nat)
 |iter (m:Option Nat) (since:Nat) (seen:List Nat) (stepped:Nat)
 |defs
 |prow (T sz:Nat) (α:Type) (l:List α) (enc:α→List PL)
 |kmap (sure ak av:Bool) (α:Type) (l:List α) (k v:α→List PL)
noncomputable def bU (E:Env) (ρ:Ren):List (AV×AV×Nat)→Option (List MapEntry)
 |[]=>some []
 |(k,v,b)::r=>match den E ρ k,den E ρ v,bU E ρ r with
  |some x,some y,some es=>some (⟨x,y,b⟩::es)
  |_,_,_=>none
def ORel (E:Env) (ρ:Ren) (e:eT):AObj→Obj→Prop
 |.blk g T sz els,o=>(∀l∈els,l.length=sz)∧0<sz∧∃arr xs,o= .cells arr T (0,0)∧aS E ρ els.flatten=some xs∧
   (bif g then arr.size=e.cap*sz∧arr.toList.take (els.length*sz)=xs∧els.length≤e.cap∧e.cap≤maxLen else arr.toList=xs)
 |.map es cl,o=>∃ms,bU E ρ es=some ms∧o= .map ms.toArray cl
 |.iter m since seen stepped,o=>∃mb,(match m with|none=>mb=none|some i=>∃f,ρ i=some f∧mb=some f.b)∧o= .mapIter mb since seen.toArray stepped
 |.defs,o=>o= .deferred (some [])
 |.prow T sz α l enc,o=>∃arr xs,o= .cells arr T (0,0)∧0<sz∧(∀x∈l,(enc x).length=sz)∧tp E (l.flatMap enc)=some xs∧arr.size=(e.cap - 1)*sz∧arr.toList.take (l.length*sz)=xs∧l.length≤e.cap - 1∧e.cap - 1≤maxLen
 |.kmap sure ak av α l k v,o=>∃es cl ms,es.map (fun e=>(e.1,e.2.1))=l.map (fun x=>(dT ak (k x),dT av (v x)))∧bU E ρ es=some ms∧o= .map ms.toArray cl
def cU (e:eT):AObj→Bool
 |.prow ..=> !Nat.beq e.cap 0
 |.kmap sure _ _ _ _ _ _=>sure|| !Nat.beq e.cap 0
 |_=>true
def LX:AObj→Prop
 |.prow _ sz _ l _=>l=[]∧0<sz
 |.kmap sure _ _ _ l _ _=>sure=false∧l=[]
 |_=>False
theorem LA {E E':Env} {ρ:Ren} (hE:Kx ρ E E'):∀(es:List (AV×AV×Nat)) (ms:List MapEntry),bU E ρ es=some ms→bU E' ρ es=some ms
 |[],ms,h=>by simpa[bU] using h
 |(k,v,b)::r,ms,h=>by
  unfold bU at h ⊢
  rcases h1:den E ρ k with _|x
  ·simp[h1]at h
  rcases h2:den E ρ v with _|y
  ·simp[h1,h2]at h
  rcases h3:bU E ρ r with _|zs
  ·simp[h1,h2,h3]at h
  rw[pj hE k x h1,pj hE v y h2,LA hE r zs h3]
  rw[h1,h2,h3]at h
  exact h
theorem ORel.env {E E':Env} {ρ:Ren} (hE:Kx ρ E E') {e:eT}:∀{o:AObj} {ob:Obj},ORel E ρ e o ob→ORel E' ρ e o ob
 |.blk g T sz els,ob,⟨h0,h1,arr,xs,h2,h3,h4⟩=>⟨h0,h1,arr,xs,h2,xS hE _ _ h3,h4⟩
 |.map es cl,ob,⟨ms,h1,h2⟩=>⟨ms,LA hE _ _ h1,h2⟩
 |.iter none since seen stepped,ob,h=>h
 |.iter (some i) since seen stepped,ob,h=>h
 |.defs,ob,h=>h
 |.prow T sz α l enc,ob,⟨arr,xs,h1,h2,h3,h4,h5⟩=>⟨arr,xs,h1,h2,h3,aem hE.mem h4,h5⟩
 |.kmap sure ak av α l k v,ob,⟨es,cl,ms,h1,h2,h3⟩=>⟨es,cl,ms,h1,LA hE _ _ h2,h3⟩
theorem Wp {E E':Env} {ρ ρ':Ren} (hM:E'.M=E.M) {α:Type} {ak av:Bool} {k v:α→List PL}:∀{l:List α} {es:List (AV×AV×Nat)} {ms:List MapEntry},es.map (fun e=>(e.1,e.2.1))=l.map (fun x=>(dT ak (k x),dT av (v x)))→bU E ρ es=some ms→bU E' ρ' es=some ms
 |[],[],ms,_,h=>h
 |[],_::_,ms,h1,_=>by simp at h1
 |_::_,[],ms,h1,_=>by simp at h1
 |x::l,(a,b,c)::es,ms,h1,h=>by
  simp only[List.map_cons,List.cons.injEq,Prod.mk.injEq]at h1
  obtain⟨⟨rfl,rfl⟩,h1⟩:=h1
  unfold bU at h ⊢
  rcases q1:den E ρ (dT ak (k x)) with _|y
  ·simp[q1]at h
  rcases q2:den E ρ (dT av (v x)) with _|z
  ·simp[q1,q2]at h
  rcases q3:bU E ρ es with _|zs
  ·simp[q1,q2,q3]at h
  rw[VH hM q1,VH hM q2,Wp hM h1 q3]
  rw[q1,q2,q3]at h
  exact h
theorem Fb {E:Env} {ρ ρ':Ren} (hl:ρ.Le ρ'):∀(es:List (AV×AV×Nat)) (ms:List MapEntry),bU E ρ es=some ms→bU E ρ' es=some ms
 |[],ms,h=>by simpa[bU] using h
 |(k,v,b)::r,ms,h=>by
  unfold bU at h ⊢
  rcases h1:den E ρ k with _|x
  ·simp[h1]at h
  rcases h2:den E ρ v with _|y
  ·simp[h1,h2]at h
  rcases h3:bU E ρ r with _|zs
  ·simp[h1,h2,h3]at h
  rw[jh hl k x h1,jh hl v y h2,Fb hl r zs h3]
  rw[h1,h2,h3]at h
  exact h
theorem ORel.mono {E:Env} {ρ ρ':Ren} (hl:ρ.Le ρ') {e:eT}:∀{o:AObj} {ob:Obj},ORel E ρ e o ob→ORel E ρ' e o ob
 |.blk g T sz els,ob,⟨h0,h1,arr,xs,h2,h3,h4⟩=>⟨h0,h1,arr,xs,h2,tT hl _ _ h3,h4⟩
 |.map es cl,ob,⟨ms,h1,h2⟩=>⟨ms,Fb hl _ _ h1,h2⟩
 |.iter none since seen stepped,ob,h=>h
 |.iter (some i) since seen stepped,ob,⟨mb,⟨f,h1,h3⟩,h2⟩=>⟨mb,⟨f,hl _ _ h1,h3⟩,h2⟩
 |.defs,ob,h=>h
 |.prow T sz α l enc,ob,h=>h
 |.kmap sure ak av α l k v,ob,⟨es,cl,ms,h1,h2,h3⟩=>⟨es,cl,ms,h1,Fb hl _ _ h2,h3⟩
inductive T:Type 1
 |leaf
 |node (l:T) (v:Option AObj) (r:T)
noncomputable def T.get (t:T):Nat→Option AObj:=
 T.rec (fun _=>none) (fun _ v _ gl gr n=>Nat.rec v (fun m _=>Bool.rec (gr (Nat.div m 2)) (gl (Nat.div m 2)) (Nat.beq (Nat.mod m 2) 0)) n) t
theorem T.get_leaf (n:Nat):T.leaf.get n=none:=rfl
theorem T.get_even (l:T) (v:Option AObj) (r:T) (m:Nat) (h:m % 2=0):(T.node l v r).get (m+1)=l.get (m / 2):=by
 show Bool.rec (motive:=fun _=>Option AObj) (T.get r (Nat.div m 2)) (T.get l (Nat.div m 2)) (Nat.beq (Nat.mod m 2) 0)=_
 rw[show Nat.mod m 2=0 from h];rfl
theorem T.get_odd (l:T) (v:Option AObj) (r:T) (m:Nat) (h:m % 2=1):(T.node l v r).get (m+1)=r.get (m / 2):=by
 show Bool.rec (motive:=fun _=>Option AObj) (T.get r (Nat.div m 2)) (T.get l (Nat.div m 2)) (Nat.beq (Nat.mod m 2) 0)=_
 rw[show Nat.mod m 2=1 from h];rfl
noncomputable def T.set (fuel:Nat):T→Nat→Option AObj→(T→Bool)→Bool:=
 Nat.rec (fun _ _ _ _=>false) (fun _ ih t n o K=>
  T.casesOn t
   (Nat.casesOn n (K (.node .leaf o .leaf)) fun m=>Bool.rec (ih .leaf (Nat.div m 2) o fun r=>K (.node .leaf none r)) (ih .leaf (Nat.div m 2) o fun l=>K (.node l none .leaf)) (Nat.beq (Nat.mod m 2) 0))
   (fun l v r=>Nat.casesOn n (K (.node l o r)) fun m=>Bool.rec (ih r (Nat.div m 2) o fun r'=>K (.node l v r')) (ih l (Nat.div m 2) o fun l'=>K (.node l' v r)) (Nat.beq (Nat.mod m 2) 0))) fuel
theorem T.set_ok:∀(fuel:Nat) (t:T) (n:Nat) (o:Option AObj) (K:T→Bool),T.set fuel t n o K=true→∃t',K t'=true∧t'.get n=o∧∀m,m≠n→t'.get m=t.get m
 |0,t,n,o,K,h=>by cases h
 |f+1,t,n,o,K,h=>by
  have half:∀m:Nat,m % 2=0∨m % 2=1:=fun m=>by omega
  have key:∀(l:T) (v:Option AObj) (r:T),(∀m,(T.node l v r).get m=t.get m)→
    Nat.casesOn (motive:=fun _=>Bool) n (K (.node l o r)) (fun m=>Bool.rec (T.set f r (Nat.div m 2) o fun r'=>K (.node l v r')) (T.set f l (Nat.div m 2) o fun l'=>K (.node l' v r)) (Nat.beq (Nat.mod m 2) 0))=true→
    ∃t',K t'=true∧t'.get n=o∧∀m,m≠n→t'.get m=t.get m:=by
   intro l v r hg h
   cases n with
   |zero=>
    refine⟨_,h,rfl,fun m hm=> ?_⟩
    rw[←hg]
    cases m with
    |zero=>exact absurd rfl hm
    |succ m=>
     rcases half m with e|e
     ·rw[T.get_even _ _ _ _ e,T.get_even _ _ _ _ e]
     ·rw[T.get_odd _ _ _ _ e,T.get_odd _ _ _ _ e]
   |succ n=>
    rcases half n with e|e
    ·have h':T.set f l (n / 2) o (fun l'=>K (.node l' v r))=true:=by
      have:Nat.beq (Nat.mod n 2) 0=true:=by rw[show Nat.mod n 2=0 from e];rfl
      simp only[this]at h
      exact h
     obtain⟨l',h1,h2,h3⟩:=T.set_ok f _ _ _ _ h'
     refine⟨_,h1,by rw[T.get_even _ _ _ _ e];exact h2,fun m hm=> ?_⟩
     rw[←hg]
     cases m with
     |zero=>rfl
     |succ m=>
      rcases half m with e'|e'
      ·rw[T.get_even _ _ _ _ e',T.get_even _ _ _ _ e']
       exact h3 _ (fun q=>hm (by omega))
      ·rw[T.get_odd _ _ _ _ e',T.get_odd _ _ _ _ e']
    ·have h':T.set f r (n / 2) o (fun r'=>K (.node l v r'))=true:=by
      have:Nat.beq (Nat.mod n 2) 0=false:=by rw[show Nat.mod n 2=1 from e];rfl
      simp only[this]at h
      exact h
     obtain⟨l',h1,h2,h3⟩:=T.set_ok f _ _ _ _ h'
     refine⟨_,h1,by rw[T.get_odd _ _ _ _ e];exact h2,fun m hm=> ?_⟩
     rw[←hg]
     cases m with
     |zero=>rfl
     |succ m=>
      rcases half m with e'|e'
      ·rw[T.get_even _ _ _ _ e',T.get_even _ _ _ _ e']
      ·rw[T.get_odd _ _ _ _ e',T.get_odd _ _ _ _ e']
       exact h3 _ (fun q=>hm (by omega))
  cases t with
  |leaf=>
   refine key .leaf none .leaf (fun m=> ?_) h
   cases m with
   |zero=>rfl
   |succ m=>
    rcases half m with e|e
    ·rw[T.get_even _ _ _ _ e];rfl
    ·rw[T.get_odd _ _ _ _ e];rfl
  |node l v r=>exact key l v r (fun _=>rfl) h
def Tied (_:re):Prop:=True
theorem Tied.mono {M M':re} (_:MLe M M') (_:Tied M):Tied M':=trivial
structure Sim (E:Env) (ρ:Ren) (G:GS) (F:List bh) (M:T) (nx:Nat) (w:World):Prop where
 ex:∃c:bh,Holds {G with M:=E.M} w (c::F)∧(∀i o,M.get i=some o→∃e,ρ i=some e∧((cU e o=true∧∃ob,(e.b,ob)∈c∧ORel E ρ e o ob)∨(cU e o=false∧LX o)))∧
  (∀i j e f o o',M.get i=some o→M.get j=some o'→ρ i=some e→ρ j=some f→cU e o=true→cU f o'=true→e.b=f.b→i=j)
 mem:MLe G.M E.M
 fresh:∀i,nx≤i→ρ i=none
section
variable {E:Env} {ρ:Ren} {G:GS} {F:List bh} {M:T} {nx:Nat} {w:World}
theorem Sim.gone (h:Sim E ρ G F M nx w) {i:Nat} (hi:ρ i=none):M.get i=none:=by
 obtain⟨c,_,ho,_⟩:=h.ex
 rcases e:M.get i with _|o
 ·rfl
 ·obtain⟨f,h1,_⟩:=ho i o e
  rw[hi]at h1;cases h1
theorem Sim.obj (h:Sim E ρ G F M nx w) {i:Nat} {o:AObj} (hi:M.get i=some o) (hb:∀e,cU e o=true:=by intro e;rfl):∃e ob,ρ i=some e∧w.heap[e.b]?=some ob∧ORel E ρ e o ob:=by
 obtain⟨c,hh,ho,_⟩:=h.ex
 obtain⟨e,h1,⟨_,ob,h2,h3⟩|⟨q,_⟩⟩:=ho i o hi
 ·exact⟨e,ob,h1,hh.own (e.b,ob) (by simp only[apB,apK];exact .inl h2),h3⟩
 ·rw[hb e]at q;cases q
theorem Sim.objP (h:Sim E ρ G F M nx w) {i:Nat} {o:AObj} (hi:M.get i=some o):∃e,ρ i=some e∧((cU e o=true∧∃ob,w.heap[e.b]?=some ob∧ORel E ρ e o ob)∨(cU e o=false∧LX o)):=by
 obtain⟨c,hh,ho,_⟩:=h.ex
 obtain⟨e,h1,⟨q,ob,h2,h3⟩|q⟩:=ho i o hi
 ·exact⟨e,h1,.inl ⟨q,ob,hh.own (e.b,ob) (by simp only[apB,apK];exact .inl h2),h3⟩⟩
 ·exact⟨e,h1,.inr q⟩
theorem Sim.start (hm:E.M=G.M) (hh:Holds G w F):Sim E (fun _=>none) G F T.leaf 0 w:=
 ⟨⟨[],by rw[hm];exact hh.nil,fun i o h=>by simp[T.get_leaf]at h,fun i j e f o o' h=>by simp[T.get_leaf]at h⟩,by rw[hm];exact MLe.refl _,fun _ _=>rfl⟩
theorem Sim.cellM (h:Sim E ρ G F M nx w) {b o:Nat} {v:Value} (hm:ou E.M b o=some v):w.cell? ⟨b,o,none⟩=some v:=by
 obtain⟨c,hh,_⟩:=h.ex
 exact hh.cellM (G:={G with M:=E.M}) hm
theorem Sim.alloc (h:Sim E ρ G F M nx w) {i nx' cap:Nat} {o:AObj} {ob:Obj} {M':T} (hi:ρ i=none) (hn:nx≤nx') (hin:i<nx') (hr:ORel E ρ ⟨w.heap.size,cap⟩ o ob)
  (h1:M'.get i=some o) (h2:∀m,m≠i→M'.get m=M.get m) (hB:cU ⟨w.heap.size,cap⟩ o=true:=by rfl):Sim E (ρ.set i ⟨w.heap.size,cap⟩) G F M' nx' (w.alloc ob):=by
 have hg:=h.gone hi
 obtain⟨c,hh,ho,hj⟩:=h.ex
 have hle:=Ren.le_set (ρ:=ρ) ⟨w.heap.size,cap⟩ hi
 have hlt:∀j o',M.get j=some o'→∀e,ρ j=some e→cU e o'=true→e.b<w.heap.size:=by
  intro j o' hj' e he hb
  obtain⟨f,hf,⟨_,ob',hm,_⟩|⟨q,_⟩⟩:=ho j o' hj'
  ·rw[he]at hf;cases hf
   exact cg (hh.own (e.b,ob') (by simp only[apB,apK];exact .inl hm))
  ·rw[he]at hf;cases hf
   rw[hb]at q;cases q
 refine⟨⟨(w.heap.size,ob)::c,(hh.alloc ob).perm (by simp),fun j o' hj'=> ?_,fun j k e f o1 o2 hj1 hk1 he hf hb1 hb2 hb=> ?_⟩,h.mem,fun j hjn=> ?_⟩
 ·by_cases e:j=i
  ·subst e
   rw[h1]at hj';cases hj'
   exact⟨_,Ren.set_self _ _ _,.inl ⟨hB,ob,by simp,hr.mono hle⟩⟩
  ·rw[h2 j e]at hj'
   obtain⟨f,a1,⟨a0,ob',a2,a3⟩|q⟩:=ho j o' hj'
   ·exact⟨f,hle _ _ a1,.inl ⟨a0,ob',by simp[a2],a3.mono hle⟩⟩
   ·exact⟨f,hle _ _ a1,.inr q⟩
 ·by_cases e1:j=i
  ·by_cases e2:k=i
   ·omega
   ·exfalso
    subst e1
    rw[Ren.set_self]at he;cases he
    rw[Ren.set_ne _ e2]at hf
    rw[h2 k e2]at hk1
    have:=hlt k o2 hk1 f hf hb2
    simp only at hb
    omega
  ·by_cases e2:k=i
   ·exfalso
    subst e2
    rw[Ren.set_self]at hf;cases hf
    rw[Ren.set_ne _ e1]at he
    rw[h2 j e1]at hj1
    have:=hlt j o1 hj1 e he hb1
    simp only at hb
    omega
   ·rw[Ren.set_ne _ e1]at he
    rw[Ren.set_ne _ e2]at hf
    rw[h2 j e1]at hj1
    rw[h2 k e2]at hk1
    exact hj j k e f o1 o2 hj1 hk1 he hf hb1 hb2 hb
 ·rw[Ren.set_ne _ (by omega)]
  exact h.fresh j (by omega)
def KM (b:Nat) (ob:Obj) (c:bh):bh:=c.map fun p=>if p.1=b then (b,ob) else p
theorem ac9 (b:Nat) (ob:Obj) (c:bh):(KM b ob c).map (·.1)=c.map (·.1):=by
 unfold KM
 rw[List.map_map]
 refine List.map_congr_left fun p _=> ?_
 simp only[Function.comp]
 split
 ·rename_i h;exact h.symm
 ·rfl
theorem agh {b:Nat} {ob:Obj} {c:bh} {p:Nat×Obj} (h:p∈KM b ob c):p=(b,ob)∨(p∈c∧p.1≠b):=by
 unfold KM at h
 obtain⟨q,hq,rfl⟩:=List.mem_map.1 h
 split
 ·exact .inl rfl
 ·rename_i hne;exact .inr ⟨hq,hne⟩
theorem af2 {b:Nat} {ob o:Obj} {c:bh} (h:(b,o)∈c):(b,ob)∈KM b ob c:=List.mem_map.2 ⟨(b,o),h,by simp⟩
theorem af1 {b:Nat} {ob:Obj} {c:bh} {p:Nat×Obj} (h:p∈c) (hne:p.1≠b):p∈KM b ob c:=List.mem_map.2 ⟨p,h,by simp[hne]⟩
theorem Sim.turn (h:Sim E ρ G F M nx w) {i:Nat} {o o':AObj} {e:eT} {ob':Obj} {M':T} {w':World} (hi:M.get i=some o) (he:ρ i=some e) (hos:w'.os=w.os) (ht:w'.tape=w.tape) (hou:w'.output=w.output)
  (hel:∀b,b<w.heap.size→b≠e.b→w'.heap[b]?=w.heap[b]?) (hob:w'.heap[e.b]?=some ob') (hr:ORel E ρ e o' ob')
  (h1:M'.get i=some o') (h2:∀m,m≠i→M'.get m=M.get m) (hB:cU e o=true:=by rfl) (hB':cU e o'=true:=by rfl):Sim E ρ G F M' nx w':=by
 obtain⟨c,hh,ho,hj⟩:=h.ex
 obtain⟨f,a1,⟨_,ob,a2,a3⟩|⟨q,_⟩⟩:=ho i o hi
 case inr=>rw[he]at a1;cases a1;rw[hB]at q;cases q
 rw[he]at a1;cases a1
 refine⟨⟨KM e.b ob' c,hh.turn hos ht hou (ac9 _ _ _) (fun b hb hn=>hel b hb fun q=>hn (q▸List.mem_map.2 ⟨_,a2,rfl⟩)) (fun p hp=> ?_),fun j o2 hj2=> ?_,fun j k e' f' o1 o2 hj1 hk1 he1 hf1 hb1 hb2=> ?_⟩,h.mem,h.fresh⟩
 ·rcases agh hp with rfl|⟨hp,hne⟩
  ·exact hob
  ·have:=hh.own p (by simp only[apB,apK];exact .inl hp)
   rw[hel p.1 (cg this) hne];exact this
 ·by_cases q:j=i
  ·subst q
   rw[h1]at hj2;cases hj2
   exact⟨e,he,.inl ⟨hB',ob',af2 a2,hr⟩⟩
  ·rw[h2 j q]at hj2
   obtain⟨f',b1,⟨b0,ob2,b2,b3⟩|b4⟩:=ho j o2 hj2
   ·refine⟨f',b1,.inl ⟨b0,ob2,af1 b2 fun hb=>q ?_,b3⟩⟩
    exact hj j i f' e _ _ hj2 hi b1 he b0 hB hb
   ·exact⟨f',b1,.inr b4⟩
 ·by_cases q1:j=i
  ·by_cases q2:k=i
   ·intro _;rw[q1,q2]
   ·subst q1
    rw[h1]at hj1;cases hj1
    rw[h2 k q2]at hk1
    rw[he]at he1;cases he1
    exact hj j k e f' _ _ hi hk1 he hf1 hB hb2
  ·by_cases q2:k=i
   ·subst q2
    rw[h1]at hk1;cases hk1
    rw[h2 j q1]at hj1
    rw[he]at hf1;cases hf1
    exact hj j k e' e _ _ hj1 hi he1 he hb1 hB
   ·rw[h2 j q1]at hj1
    rw[h2 k q2]at hk1
    exact hj j k e' f' _ _ hj1 hk1 he1 hf1 hb1 hb2
theorem Sim.regrow (h:Sim E ρ G F M nx w) {i j nx' cap:Nat} {old:Option Nat} {o':AObj} {b':Nat} {ob':Obj} {M':T} {w':World} (hj:ρ j=none) (hn:nx≤nx') (hjn:j<nx')
  (hold:∀b,old=some b→∃e o,M.get i=some o∧ρ i=some e∧e.b=b∧cU e o=true) (hg:w.grownBy w' old) (hw:w'.heap[b']?=some ob') (hb':old=some b'∨w.heap.size≤b') (hr:ORel E ρ ⟨b',cap⟩ o' ob')
  (h1:M'.get j=some o') (h2:∀m,m≠j→m≠i→M'.get m=M.get m) (h3:i≠j→M'.get i=none) (hB':cU ⟨b',cap⟩ o'=true:=by rfl):Sim E (ρ.set j ⟨b',cap⟩) G F M' nx' w':=by
 have hgone:=h.gone hj
 obtain⟨c,hh,ho,hinj⟩:=h.ex
 have hle:=Ren.le_set (ρ:=ρ) ⟨b',cap⟩ hj
 have hF:=hh.drop
 have hn0:=hh.nodup
 simp only[apB,apJ]at hn0
 have hdis:=(List.nodup_append.1 hn0).2.2
 have hcn:=(List.nodup_append.1 hn0).1
 have hblk:∀p∈c,p.1<w.heap.size:=fun p hp=>cg (hh.own p (by simp only[apB,apK];exact .inl hp))
 have hkeep:∀b,b<w.heap.size→old≠some b→w'.heap[b]?=w.heap[b]?:=fun b hb hne=>hg.block b hb (fun e=>hne e.symm)
 have holdc:∀b,old=some b→b∈c.map (·.1):=by
  intro b hb
  obtain⟨e,o,m1,m2,m3,m4⟩:=hold b hb
  obtain⟨f,a1,⟨_,ob,a2,_⟩|⟨q,_⟩⟩:=ho i o m1
  ·rw[m2]at a1;cases a1
   exact List.mem_map.2 ⟨_,a2,m3⟩
  ·rw[m2]at a1;cases a1
   rw[m4]at q;cases q
 have hnotM:∀b o2,E.M b=some o2→old≠some b:=by
  intro b o2 hM hb
  obtain⟨p,hp,hpb⟩:=List.mem_map.1 (holdc b hb)
  have:=hh.apart p (by simp only[apB,apK];exact .inl hp)
  rw[hpb]at this
  have:E.M b=none:=this
  rw[hM]at this;cases this
 have hc':∀p,p∈c.filter (fun p=>decide (old≠some p.1))→p∈c∧old≠some p.1:=fun p hp=>by
  have:=List.mem_filter.1 hp
  exact⟨this.1,by simpa using this.2⟩
 refine⟨⟨(b',ob')::c.filter (fun p=>decide (old≠some p.1)),⟨hg.os.trans hh.os,hg.tape.trans hh.tape,hg.output.trans hh.output,fun b o2 hM=> ?_,fun p hp=> ?_,?_,fun p hp=> ?_⟩,fun k o2 hk=> ?_,fun k l e f o1 o2 hk hl he hf hb1 hb2 hb=> ?_⟩,h.mem,fun k hk=> ?_⟩
 ·have hM':E.M b=some o2:=hM
  have:=hh.mem b o2 hM
  rw[hkeep b (cg this) (hnotM b o2 hM')];exact this
 ·simp only[apB,apC,apF,apK]at hp
  rcases hp with rfl|hp|hp
  ·exact hw
  ·obtain⟨hp1,hp2⟩:=hc' p hp
   have:=hh.own p (by simp only[apB,apK];exact .inl hp1)
   rw[hkeep p.1 (cg this) hp2];exact this
  ·have:=hF.own p hp
   rw[hkeep p.1 (cg this) fun e=>hdis _ (holdc _ e) _ (List.mem_map_of_mem hp) rfl];exact this
 ·simp only[apB,apC,List.map_cons,apJ,List.nodup_cons]
  refine⟨fun hm=> ?_,?_⟩
  ·rcases apK.1 hm with hm|hm
   ·obtain⟨p,hp,hpb⟩:=List.mem_map.1 hm
    obtain⟨hp1,hp2⟩:=hc' p hp
    rcases hb' with e|e
    ·exact hp2 (hpb▸e)
    ·have:=hblk p hp1;omega
   ·obtain⟨p,hp,hpb⟩:=List.mem_map.1 hm
    rcases hb' with e|e
    ·exact hdis _ (holdc _ e) _ (List.mem_map_of_mem hp) hpb.symm
    ·have:=cg (hF.own p hp);omega
  ·refine List.nodup_append.2 ⟨?_,hF.nodup,fun x hx y hy=> ?_⟩
   ·exact hcn.sublist (List.Sublist.map _ List.filter_sublist)
   ·refine hdis x ?_ y hy
    obtain⟨p,hp,rfl⟩:=List.mem_map.1 hx
    exact List.mem_map_of_mem (hc' p hp).1
 ·simp only[apB,apC,apF,apK]at hp
  show E.M p.1=none
  rcases hp with rfl|hp|hp
  ·rcases e:E.M b' with _|o2
   ·rfl
   ·rcases hb' with q|q
    ·exact absurd q (hnotM b' o2 e)
    ·have:=cg (hh.mem b' o2 e);omega
  ·exact hh.apart p (by simp only[apB,apK];exact .inl (hc' p hp).1)
  ·exact hF.apart p hp
 ·by_cases q:k=j
  ·subst q
   rw[h1]at hk;cases hk
   exact⟨_,Ren.set_self _ _ _,.inl ⟨hB',ob',by simp,hr.mono hle⟩⟩
  ·by_cases q2:k=i
   ·subst q2
    rw[h3 q]at hk;cases hk
   ·rw[h2 k q q2]at hk
    obtain⟨f,a1,⟨a0,ob2,a2,a3⟩|a4⟩:=ho k o2 hk
    ·refine⟨f,hle _ _ a1,.inl ⟨a0,ob2,?_,a3.mono hle⟩⟩
     refine List.mem_cons_of_mem _ (List.mem_filter.2 ⟨a2,?_⟩)
     simp only[decide_eq_true_eq]
     intro hb
     obtain⟨e,o,m1,m2,m3,m4⟩:=hold _ hb
     exact q2 (hinj k i f e _ _ hk m1 a1 m2 a0 m4 m3.symm)
    ·exact⟨f,hle _ _ a1,.inr a4⟩
 ·have nb:∀m f' om,M.get m=some om→m≠i→ρ m=some f'→cU f' om=true→f'.b≠b':=by
   intro m f' om hm hmi hf' hbm hbb
   obtain⟨f2,a1,⟨_,ob2,a2,_⟩|⟨q,_⟩⟩:=ho m om hm
   ·rw[hf']at a1;cases a1
    rcases hb' with q|q
    ·obtain⟨e,o,m1,m2,m3,m4⟩:=hold _ q
     exact hmi (hinj m i f' e _ _ hm m1 hf' m2 hbm m4 (by rw[m3];exact hbb))
    ·have:=hblk _ a2
     simp only at this
     omega
   ·rw[hf']at a1;cases a1
    rw[hbm]at q;cases q
  by_cases q1:k=j
  ·by_cases q2:l=j
   ·omega
   ·exfalso
    subst q1
    rw[Ren.set_self]at he;cases he
    rw[Ren.set_ne _ q2]at hf
    by_cases q3:l=i
    ·subst q3;rw[h3 q2]at hl;cases hl
    ·rw[h2 l q2 q3]at hl
     exact nb l f _ hl q3 hf hb2 hb.symm
  ·by_cases q2:l=j
   ·exfalso
    subst q2
    rw[Ren.set_self]at hf;cases hf
    rw[Ren.set_ne _ q1]at he
    by_cases q3:k=i
    ·subst q3;rw[h3 q1]at hk;cases hk
    ·rw[h2 k q1 q3]at hk
     exact nb k e _ hk q3 he hb1 hb
   ·rw[Ren.set_ne _ q1]at he
    rw[Ren.set_ne _ q2]at hf
    by_cases q3:k=i
    ·subst q3;rw[h3 q1]at hk;cases hk
    ·by_cases q4:l=i
     ·subst q4;rw[h3 q2]at hl;cases hl
     ·rw[h2 k q1 q3]at hk
      rw[h2 l q2 q4]at hl
      exact hinj k l e f _ _ hk hl he hf hb1 hb2 hb
 ·rw[Ren.set_ne _ (by omega)]
  exact h.fresh k (by omega)
theorem Sim.ext (h:Sim E ρ G F M nx w) {w':World} (hb:Below w.heap.size w w'):Sim E ρ G F M nx w':=by
 obtain⟨c,hh,ho,hj⟩:=h.ex
 exact⟨⟨c,hh.ext hb,ho,hj⟩,h.mem,h.fresh⟩
theorem Sim.drawn (h:Sim E ρ G F M nx w):Sim E ρ G F M nx {w with drawn:=w.drawn+1}:=by
 obtain⟨c,hh,ho,hj⟩:=h.ex
 exact⟨⟨c,hh.drawn,ho,hj⟩,h.mem,h.fresh⟩
theorem Sim.holds (h:Sim E ρ G F M nx w):∃G',G.Le G'∧Holds G' w F∧G'.M=E.M:=by
 obtain⟨c,hh,_⟩:=h.ex
 exact⟨{G with M:=E.M},⟨rfl,rfl,rfl,h.mem⟩,hh.drop,rfl⟩
end
inductive SL
 |nil
 |cons (t:Nat) (v:AV) (r:SL)
 |mark (i:Nat) (r:SL)
noncomputable def bz (t:Nat) (S:SL):AV:=SL.rec .bad (fun k v _ ih=>Bool.rec ih v (Nat.beq k t)) (fun _ _ ih=>ih) S
theorem gL (t:Nat) (v:AV) (r:SL):bz t (.cons t v r)=v:=by
 show Bool.rec (motive:=fun _=>AV) (bz t r) v (Nat.beq t t)=v
 rw[Nat.beq_refl]
theorem lv {t k:Nat} (v:AV) (r:SL) (h:k≠t):bz t (.cons k v r)=bz t r:=by
 show Bool.rec (motive:=fun _=>AV) (bz t r) v (Nat.beq k t)=bz t r
 have:Nat.beq k t=false:=by
  cases hb:Nat.beq k t with
  |false=>rfl
  |true=>exact absurd (apz hb) h
 rw[this]
def DRel (ρ:Ren):List Nat→List Deferred→Prop
 |[],ds=>ds=[]
 |i::r,ds=>∃e ds',ρ i=some e∧ds={target:=.collected e.b,args:= #[]}::ds'∧DRel ρ r ds'
theorem DRel.mono {ρ ρ':Ren} (hl:ρ.Le ρ'):∀{l:List Nat} {ds:List Deferred},DRel ρ l ds→DRel ρ' l ds
 |[],_,h=>h
 |_::_,_,⟨e,ds',h1,h2,h3⟩=>⟨e,ds',hl _ _ h1,h2,h3.mono hl⟩
section
variable {E:Env} {ρ ρ':Ren} {N:Nat} {S:SL} {a:Act}
end
noncomputable def fN (n:Nat) (K:Nat→Bool):Bool:=Nat.rec (K 0) (fun m _=>K (Nat.succ m)) n
theorem bY (n:Nat) (K:Nat→Bool):fN n K=K n:=by cases n<;>rfl
noncomputable def fI (z:Int) (K:Int→Bool):Bool:=Int.casesOn z (fun n=>fN n fun n=>K (.ofNat n)) (fun n=>fN n fun n=>K (.negSucc n))
theorem GO (z:Int) (K:Int→Bool):fI z K=K z:=by
 cases z with
 |ofNat n=>exact bY n fun n=>K (.ofNat n)
 |negSucc n=>exact bY n fun n=>K (.negSucc n)
noncomputable def fB (b:Bool) (K:Bool→Bool):Bool:=Bool.rec (K false) (K true) b
theorem zO (b:Bool) (K:Bool→Bool):fB b K=K b:=by cases b<;>rfl
noncomputable def bn (b:Bool) (x y:Bool):Bool:=Bool.rec y x b
theorem MW (b x y:Bool):bn b x y=bif b then x else y:=by cases b<;>rfl
theorem bi {b x y:Bool} (h:bn b x y=true):(b=true∧x=true)∨(b=false∧y=true):=by
 cases b
 ·exact .inr ⟨rfl,h⟩
 ·exact .inl ⟨rfl,h⟩
noncomputable def aa (b:Bool) (x:Bool):Bool:=Bool.rec false x b
theorem aj {b x:Bool} (h:aa b x=true):b=true∧x=true:=by
 cases b
 ·cases h
 ·exact⟨rfl,h⟩
noncomputable def jF (v:AV) (K:Nat→Int→Bool):Bool:=AV.casesOn v false K (fun _=>false) (fun _=>false) (fun _ _=>false) (fun _ _ _ _=>false) (fun _=>false) false false false false false (fun _ _=>false) (fun _ _=>false) (fun _=>false) (fun _=>false) (fun _=>false) (fun _=>false) (fun _=>false)
theorem iF {v:AV} {K:Nat→Int→Bool} (h:jF v K=true):∃k z,v= .int k z∧K k z=true:=by cases v<;>first|exact⟨_,_,rfl,h⟩|cases h
noncomputable def Zt (v:AV) (K:Bool→Bool):Bool:=AV.casesOn v false (fun _ _=>false) K (fun _=>false) (fun _ _=>false) (fun _ _ _ _=>false) (fun _=>false) false false false false false (fun _ _=>false) (fun _ _=>false) (fun _=>false) (fun _=>false) (fun _=>false) (fun _=>false) (fun _=>false)
theorem Ns {v:AV} {K:Bool→Bool} (h:Zt v K=true):∃b,v= .bool b∧K b=true:=by cases v<;>first|exact⟨_,rfl,h⟩|cases h
noncomputable def qX (v:AV) (K:List Nat→Bool):Bool:=AV.casesOn v false (fun _ _=>false) (fun _=>false) K (fun _ _=>false) (fun _ _ _ _=>false) (fun _=>false) false false false false false (fun _ _=>false) (fun _ _=>false) (fun _=>false) (fun _=>false) (fun _=>false) (fun _=>false) (fun _=>false)
theorem jj {v:AV} {K:List Nat→Bool} (h:qX v K=true):∃l,v= .str l∧K l=true:=by cases v<;>first|exact⟨_,rfl,h⟩|cases h
noncomputable def nz (v:AV) (K:Nat→Nat→Bool):Bool:=AV.casesOn v false (fun _ _=>false) (fun _=>false) (fun _=>false) K (fun _ _ _ _=>false) (fun _=>false) false false false false false (fun _ _=>false) (fun _ _=>false) (fun _=>false) (fun _=>false) (fun _=>false) (fun _=>false) (fun _=>false)
theorem ie {v:AV} {K:Nat→Nat→Bool} (h:nz v K=true):∃i o,v= .ptr i o∧K i o=true:=by cases v<;>first|exact⟨_,_,rfl,h⟩|cases h
noncomputable def ue (v:AV) (K0:Bool) (K:Nat→Nat→Nat→ACap→Bool):Bool:=AV.casesOn v false (fun _ _=>false) (fun _=>false) (fun _=>false) (fun _ _=>false) K (fun _=>false) false K0 false false false (fun _ _=>false) (fun _ _=>false) (fun _=>false) (fun _=>false) (fun _=>false) (fun _=>false) (fun _=>false)
theorem jE {v:AV} {K0:Bool} {K:Nat→Nat→Nat→ACap→Bool} (h:ue v K0 K=true):(v= .nilS∧K0=true)∨∃i o n c,v= .sl i o n c∧K i o n c=true:=by
 cases v<;>first|exact .inr ⟨_,_,_,_,rfl,h⟩|exact .inl ⟨rfl,h⟩|cases h
noncomputable def zS (v:AV) (K0:Bool) (K:Nat→Bool):Bool:=AV.casesOn v false (fun _ _=>false) (fun _=>false) (fun _=>false) (fun _ _=>false) (fun _ _ _ _=>false) K false false K0 false false (fun _ _=>false) (fun _ _=>false) (fun _=>false) (fun _=>false) (fun _=>false) (fun _=>false) (fun _=>false)
theorem oZ {v:AV} {K0:Bool} {K:Nat→Bool} (h:zS v K0 K=true):(v= .nilM∧K0=true)∨∃i,v= .map i∧K i=true:=by
 cases v<;>first|exact .inr ⟨_,rfl,h⟩|exact .inl ⟨rfl,h⟩|cases h
noncomputable def asAgg (v:AV) (K:List AV→Bool):Bool:=AV.casesOn v false (fun _ _=>false) (fun _=>false) (fun _=>false) (fun _ _=>false) (fun _ _ _ _=>false) (fun _=>false) false false false false false (fun _ _=>false) (fun _ _=>false) (fun _=>false) K (fun _=>false) (fun _=>false) (fun _=>false)
theorem fg {v:AV} {K:List AV→Bool} (h:asAgg v K=true):∃l,v= .agg l∧K l=true:=by cases v<;>first|exact⟨_,rfl,h⟩|cases h
noncomputable def aic (v:AV) (K:List AV→Bool):Bool:=AV.casesOn v false (fun _ _=>false) (fun _=>false) (fun _=>false) (fun _ _=>false) (fun _ _ _ _=>false) (fun _=>false) false false false false false (fun _ _=>false) (fun _ _=>false) (fun _=>false) (fun _=>false) K (fun _=>false) (fun _=>false)
theorem agY {v:AV} {K:List AV→Bool} (h:aic v K=true):∃l,v= .tup l∧K l=true:=by cases v<;>first|exact⟨_,rfl,h⟩|cases h
noncomputable def cn (v:AV):List AV:=AV.casesOn v [.bad] (fun k z=>[.int k z]) (fun b=>[.bool b]) (fun l=>[.str l]) (fun i o=>[.ptr i o]) (fun i o n c=>[.sl i o n c]) (fun i=>[.map i]) [.nilP] [.nilS] [.nilM] [.nilF] [.nilI] (fun t v=>[.iface t v]) (fun f c=>[.fn f c]) (fun i=>[.yl i]) (fun l=>l) (fun l=>[.tup l]) (fun i=>[.any i]) (fun s=>[.sy s])
noncomputable def UN (v:AV):Bool:=AV.casesOn v false (fun _ _=>true) (fun _=>true) (fun _=>true) (fun _ _=>true) (fun _ _ _ _=>true) (fun _=>true) true true true true true (fun _ _=>true) (fun _ _=>true) (fun _=>true) (fun _=>false) (fun _=>false) (fun _=>true) (fun _=>true)
noncomputable def Nt (l:List AV):Bool:=List.rec true (fun v _ ih=>Bool.rec false ih (UN v)) l
def fV (E:Env):Prop:=(∀i,Value.oneCell' (E i)=true)∧Tied E.M
section
variable {E:Env} {ρ:Ren}
theorem agG {p:PL} {x:Value} (h:ji E p=some x):Value.oneCell' x=true∧x.cells= #[x]:=by
 obtain⟨h1,rfl⟩:=iE h
 cases h1 with
 |imm ao cap hh=>subst hh;exact⟨rfl,rfl⟩
 |_=>exact⟨rfl,rfl⟩
theorem Wn {s:SY} {x:Value} (h:bo E ρ s=some x):Value.oneCell' x=true∧x.cells= #[x]:=by
 cases s with
 |imm=>exact agG h
 |int k z=>cases h;exact⟨rfl,rfl⟩
 |bool p=>cases h;exact⟨rfl,rfl⟩
 |str l=>cases h;exact⟨rfl,rfl⟩
 |pim b o cs=>
  simp only[bo]at h
  split at h
  ·cases h;exact⟨rfl,rfl⟩
  ·cases h
 |prow i n=>
  simp only[bo]at h
  split at h
  ·unfold ub at h
   split at h
   ·split at h
    ·cases h;exact⟨rfl,rfl⟩
    ·cases h
   ·cases h;exact⟨rfl,rfl⟩
  ·cases h
 |psub i sz a n o oc=>
  simp only[bo]at h
  split at h
  ·unfold nP at h
   split at h
   ·split at h
    ·cases h;exact⟨rfl,rfl⟩
    ·cases h
   ·split at h
    ·cases h;exact⟨rfl,rfl⟩
    ·cases h
  ·cases h
 |pfix i n c=>
  simp only[bo]at h
  split at h
  ·unfold uc at h
   split at h
   ·split at h
    ·cases h;exact⟨rfl,rfl⟩
    ·cases h
   ·cases h;exact⟨rfl,rfl⟩
  ·cases h
 |rptr i sz q o=>
  simp only[bo]at h
  split at h
  ·cases h;exact⟨rfl,rfl⟩
  ·cases h
 |kmp i=>
  simp only[bo]at h
  split at h
  ·cases h;exact⟨rfl,rfl⟩
  ·cases h
theorem af9 (hE:fV E) {v:AV} {x:Value} (h:UN v=true) (hd:den E ρ v=some x):Value.oneCell' x=true:=by
 cases v<;>first|(cases h;done)|skip
 case int k z=>simp[den]at hd;subst hd;rfl
 case bool b=>simp[den]at hd;subst hd;rfl
 case str l=>simp[den]at hd;subst hd;rfl
 case nilP=>simp[den]at hd;subst hd;rfl
 case nilS=>simp[den]at hd;subst hd;rfl
 case nilM=>simp[den]at hd;subst hd;rfl
 case nilF=>simp[den]at hd;subst hd;rfl
 case nilI=>simp[den]at hd;subst hd;rfl
 case any i=>
  unfold den at hd
  split at hd<;>first|(cases hd;exact hE.1 i)|cases hd
 case sy s=>
  unfold den at hd
  exact(Wn hd).1
 all_goals
  unfold den at hd
  split at hd<;>first|(cases hd;rfl)|cases hd
theorem CK (hE:fV E):∀{l:List AV} {xs:List Value},Nt l=true→aS E ρ l=some xs→xs.all Value.oneCell'=true
 |[],xs,_,h=>by simp[aS]at h;subst h;rfl
 |v::r,xs,ha,h=>by
  obtain⟨x,ys,h1,h2,rfl⟩:=cE h
  have ha':Bool.rec (motive:=fun _=>Bool) false (Nt r) (UN v)=true:=ha
  have hv:UN v=true:=by
   cases q:UN v with
   |true=>rfl
   |false=>rw[q]at ha';cases ha'
  rw[hv]at ha'
  simp only[List.all_cons,apP]
  exact⟨af9 hE hv h1,CK hE ha' h2⟩
theorem qW (hE:fV E) {v:AV} {x:Value} (hd:den E ρ v=some x):aS E ρ (cn v)=some x.cells.toList:=by
 cases v
 case agg l=>
  unfold den at hd
  split at hd
  ·rename_i cs h;cases hd;simpa[cn,Value.cells] using h
  ·cases hd
 case bad=>simp[den]at hd
 case int k z=>simp[den]at hd;subst hd;simp[cn,aS,den,Value.cells]
 case bool b=>simp[den]at hd;subst hd;simp[cn,aS,den,Value.cells]
 case str l=>simp[den]at hd;subst hd;simp[cn,aS,den,Value.cells]
 case nilP=>simp[den]at hd;subst hd;simp[cn,aS,den,Value.cells]
 case nilS=>simp[den]at hd;subst hd;simp[cn,aS,den,Value.cells]
 case nilM=>simp[den]at hd;subst hd;simp[cn,aS,den,Value.cells]
 case nilF=>simp[den]at hd;subst hd;simp[cn,aS,den,Value.cells]
 case nilI=>simp[den]at hd;subst hd;simp[cn,aS,den,Value.cells]
 case any i=>
  have hd':=hd
  unfold den at hd'
  split at hd'
  case h_2=>cases hd'
  cases hd'
  have:=hE.1 i
  simp only[cn,aS,hd]
  cases h:E i<;>rw[h]at this<;>first|(simp[Value.cells];done)|(simp[Value.oneCell']at this;done)
 case sy s=>
  have hd':=hd
  unfold den at hd'
  simp only[cn,aS,hd,(Wn hd').2]
 all_goals
  have hd':=hd
  unfold den at hd'
  split at hd'<;>first|(cases hd';simp[cn,aS,hd,Value.cells];done)|cases hd'
end
noncomputable def HS (k:Nat):Bool:=Nat.beq k 0||Nat.blt 4 k
noncomputable def xG (k:Nat):Nat:=Nat.rec 9223372036854775808 (fun k _=>Nat.rec 256 (fun k _=>Nat.rec 65536 (fun k _=>Nat.rec 4294967296 (fun k _=>Nat.rec 18446744073709551616 (fun k _=>Nat.rec 2147483648 (fun k _=>Nat.rec 32768 (fun _ _=>128) k) k) k) k) k) k) k
noncomputable def inR (k:Nat) (z:Int):Bool:=Int.casesOn z (fun n=>Nat.blt n (xG k)) (fun n=>HS k&&Nat.blt n (xG k))
theorem agp {k:Nat} {z:Int} (h:inR k z=true):(cR k).wrap z=z:=by
 have hz:(0≤z→z<(xG k:Int))∧(z<0→HS k=true∧ -(xG k:Int)≤z):=by
  cases z with
  |ofNat n=>
   have:n<xG k:=by
    have:Nat.blt n (xG k)=true:=h
    simpa[apV] using this
   exact⟨fun _=>by simp only[Int.ofNat_eq_natCast];omega,fun hn=>by simp only[Int.ofNat_eq_natCast]at hn;omega⟩
  |negSucc n=>
   have h':(HS k&&Nat.blt n (xG k))=true:=h
   simp only[apP,apV]at h'
   exact⟨fun hn=>by omega,fun _=>⟨h'.1,by have:=h'.2;omega⟩⟩
 match k with
 |0=>
  have hb:xG 0=9223372036854775808:=rfl
  have hs:HS 0=true:=rfl
  rw[hb,hs]at hz
  have h1:=hz.1;have h2:=hz.2
  exact Uk (by omega) (by omega)
 |1=>
  have hb:xG 1=256:=rfl
  have hs:HS 1=false:=rfl
  rw[hb,hs]at hz
  have h1:=hz.1;have h2:=hz.2
  have h2:¬z<0:=fun q=>by have:=(h2 q).1;cases this
  exact Yv (by omega) (by omega)
 |2=>
  have hb:xG 2=65536:=rfl
  have hs:HS 2=false:=rfl
  rw[hb,hs]at hz
  have h1:=hz.1;have h2:=hz.2
  have h2:¬z<0:=fun q=>by have:=(h2 q).1;cases this
  exact Uj (by omega) (by omega)
 |3=>
  have hb:xG 3=4294967296:=rfl
  have hs:HS 3=false:=rfl
  rw[hb,hs]at hz
  have h1:=hz.1;have h2:=hz.2
  have h2:¬z<0:=fun q=>by have:=(h2 q).1;cases this
  exact Ui (by omega) (by omega)
 |4=>
  have hb:xG 4=18446744073709551616:=rfl
  have hs:HS 4=false:=rfl
  rw[hb,hs]at hz
  have h1:=hz.1;have h2:=hz.2
  have h2:¬z<0:=fun q=>by have:=(h2 q).1;cases this
  exact Uh (by omega) (by omega)
 |5=>
  have hb:xG 5=2147483648:=rfl
  have hs:HS 5=true:=rfl
  rw[hb,hs]at hz
  have h1:=hz.1;have h2:=hz.2
  exact Ul (by omega) (by omega)
 |6=>
  have hb:xG 6=32768:=rfl
  have hs:HS 6=true:=rfl
  rw[hb,hs]at hz
  have h1:=hz.1;have h2:=hz.2
  exact IntWalk.i16_in z ⟨by omega,by omega⟩
 |k+7=>
  have hb:xG (k+7)=128:=rfl
  rw[hb]at hz
  have h1:=hz.1;have h2:=hz.2
  exact IntWalk.i8_in z ⟨by omega,by omega⟩
noncomputable def yo (k:Nat) (z:Int) (K:Int→Bool):Bool:=fI z fun z=>bn (inR k z) (K z) (fI ((cR k).wrap z) K)
theorem wo (k:Nat) (z:Int) (K:Int→Bool):yo k z K=K ((cR k).wrap z):=by
 unfold yo
 rw[GO,MW]
 cases h:inR k z with
 |true=>rw[cond_true,agp h]
 |false=>rw[cond_false,GO]
noncomputable def xA (a b:Int):Bool:=Int.casesOn a (fun m=>Int.casesOn b (fun n=>Nat.blt m n) (fun _=>false)) (fun m=>Int.casesOn b (fun _=>true) (fun n=>Nat.blt n m))
theorem Bi (a b:Int):xA a b=decide (a<b):=by
 rw[Bool.eq_iff_iff,decide_eq_true_eq]
 cases a<;>cases b
 ·simp only[xA,apV,Int.ofNat_eq_natCast];omega
 ·simp only[xA,Int.ofNat_eq_natCast,Bool.false_eq_true,false_iff];omega
 ·simp only[xA,Int.ofNat_eq_natCast,true_iff];omega
 ·simp only[xA,apV];omega
noncomputable def xP (a b:Int):Bool:=Int.casesOn a (fun m=>Int.casesOn b (fun n=>Nat.beq m n) (fun _=>false)) (fun m=>Int.casesOn b (fun _=>false) (fun n=>Nat.beq m n))
theorem abC (m n:Nat):Nat.beq m n=decide (m=n):=by
 rw[Bool.eq_iff_iff,decide_eq_true_eq,Nat.beq_eq]
theorem xO (a b:Int):xP a b=decide (a=b):=by
 rw[Bool.eq_iff_iff,decide_eq_true_eq]
 cases a<;>cases b
 ·simp only[xP,Nat.beq_eq,Int.ofNat_eq_natCast];omega
 ·simp only[xP,Int.ofNat_eq_natCast,Bool.false_eq_true,false_iff];omega
 ·simp only[xP,Int.ofNat_eq_natCast,Bool.false_eq_true,false_iff];omega
 ·simp only[xP,Nat.beq_eq];omega
noncomputable def fb {α:Type _} (l:List α):Nat→Option α:=List.rec (fun _=>none) (fun x _ ih n=>Nat.rec (some x) (fun m _=>ih m) n) l
theorem iA {α:Type _}:∀(l:List α) (n:Nat),fb l n=l[n]?
 |[],n=>by simp[fb]
 |x::l,0=>rfl
 |x::l,n+1=>by rw[List.getElem?_cons_succ,←iA l n];rfl
noncomputable def Bz {α:Type _} (l:List α):Nat→List α:=List.rec (fun _=>[]) (fun x xs ih n=>Nat.rec (x::xs) (fun m _=>ih m) n) l
theorem xQ {α:Type _}:∀(l:List α) (n:Nat),Bz l n=l.drop n
 |[],n=>by simp[Bz]
 |x::l,0=>rfl
 |x::l,n+1=>by rw[List.drop_succ_cons,←xQ l n];rfl
noncomputable def DC {α:Type _} (l:List α):Nat→(List α→Bool)→Bool:=List.rec (fun n K=>Nat.rec (K []) (fun _ _=>false) n) (fun x _ ih n K=>Nat.rec (K []) (fun m _=>ih m fun r=>K (x::r)) n) l
theorem AI {α:Type _}:∀{l:List α} {n:Nat} {K:List α→Bool},DC l n K=true→K (l.take n)=true∧n≤l.length
 |[],0,K,h=>⟨h,by simp⟩
 |[],n+1,K,h=>by cases h
 |x::l,0,K,h=>⟨h,by simp⟩
 |x::l,n+1,K,h=>by
  have h':DC l n (fun r=>K (x::r))=true:=h
  obtain⟨h1,h2⟩:=AI h'
  exact⟨by simpa using h1,by simp;omega⟩
noncomputable def nR {α:Type _} (l:List α):Nat→List α→(List α→Bool)→Bool:=
 List.rec (fun n vs K=>List.casesOn vs (Nat.rec (K []) (fun _ _=>false) n) (fun _ _=>false))
  (fun x xs ih n vs K=>Nat.rec (List.casesOn vs (K (x::xs)) (fun v vs'=>ih 0 vs' fun r=>K (v::r))) (fun m _=>ih m vs fun r=>K (x::r)) n) l
theorem fJ {α:Type _}:∀{l:List α} {n:Nat} {vs:List α} {K:List α→Bool},nR l n vs K=true→K (l.take n++vs++l.drop (n+vs.length))=true∧n+vs.length≤l.length
 |[],0,[],K,h=>⟨h,by simp⟩
 |[],n+1,[],K,h=>by cases h
 |[],n,v::vs,K,h=>by cases h
 |x::l,0,[],K,h=>⟨h,by simp⟩
 |x::l,0,v::vs,K,h=>by
  have h':nR l 0 vs (fun r=>K (v::r))=true:=h
  obtain⟨h1,h2⟩:=fJ h'
  exact⟨by simpa using h1,by simp at h2 ⊢;omega⟩
 |x::l,n+1,vs,K,h=>by
  have h':nR l n vs (fun r=>K (x::r))=true:=h
  obtain⟨h1,h2⟩:=fJ h'
  refine⟨?_,by simp;omega⟩
  rw[show n+1+vs.length=(n+vs.length)+1 by omega]
  simpa using h1
noncomputable def app {α:Type _} (l:List α) (m:List α) (K:List α→Bool):Bool:=List.rec (motive:=fun _=>(List α→Bool)→Bool) (fun K=>K m) (fun x _ ih K=>ih fun r=>K (x::r)) l K
theorem BC {α:Type _}:∀(l m:List α) (K:List α→Bool),app l m K=K (l++m)
 |[],m,K=>rfl
 |x::l,m,K=>by
  have:app (x::l) m K=app l m (fun r=>K (x::r)):=rfl
  rw[this,BC l m];rfl
noncomputable def db {α:Type _} (l:List α):Nat:=List.rec 0 (fun _ _ ih=>Nat.succ ih) l
theorem cw {α:Type _}:∀(l:List α),db l=l.length
 |[]=>rfl
 |x::l=>by
  have:db (x::l)=Nat.succ (db l):=rfl
  rw[this,cw l];rfl
noncomputable def Sw (l m:List Nat):Bool:=List.rec (motive:=fun _=>List Nat→Bool) (fun m=>List.casesOn m true (fun _ _=>false)) (fun x _ ih m=>List.casesOn m false (fun y r=>Bool.rec false (ih r) (Nat.beq x y))) l m
theorem By:∀(l m:List Nat),Sw l m=decide (l=m)
 |[],[]=>rfl
 |[],_::_=>rfl
 |_::_,[]=>rfl
 |x::l,y::m=>by
  have:Sw (x::l) (y::m)=Bool.rec (motive:=fun _=>Bool) false (Sw l m) (Nat.beq x y):=rfl
  rw[this,By l m,abC]
  by_cases h:x=y
  ·subst h;by_cases h2:l=m<;>simp[h2]
  ·simp[h]
noncomputable def fy (v:AV):Bool:=AV.casesOn v false (fun _ _=>false) (fun _=>false) (fun _=>false) (fun _ _=>false) (fun _ _ _ _=>false) (fun _=>false) false false false false false (fun _ _=>false) (fun _ _=>false) (fun _=>false) (fun _=>false) (fun _=>false) (fun _=>false) (fun _=>true)
noncomputable def kI (v:AV) (K:SY→Bool):Bool:=AV.casesOn v false (fun _ _=>false) (fun _=>false) (fun _=>false) (fun _ _=>false) (fun _ _ _ _=>false) (fun _=>false) false false false false false (fun _ _=>false) (fun _ _=>false) (fun _=>false) (fun _=>false) (fun _=>false) (fun _=>false) K
theorem eI {v:AV} {K:SY→Bool} (h:kI v K=true):∃s,v= .sy s∧K s=true:=by cases v<;>first|exact⟨_,rfl,h⟩|cases h
noncomputable def pp (v:AV) (K:Nat→Int→Bool):Bool:=AV.casesOn v false K (fun _=>false) (fun _=>false) (fun _ _=>false) (fun _ _ _ _=>false) (fun _=>false) false false false false false (fun _ _=>false) (fun _ _=>false) (fun _=>false) (fun _=>false) (fun _=>false) (fun _=>false)
 fun s=>SY.casesOn s K (fun _=>false) (fun _=>false) (fun _ _ _ _ _=>false) (fun _ _ _=>false) (fun _ _=>false) (fun _ _ _ _ _ _=>false) (fun _ _ _ _=>false) (fun _ _ _=>false) (fun _=>false)
theorem jD {E:Env} {ρ:Ren} {v:AV} {K:Nat→Int→Bool} {x:Value} (hd:den E ρ v=some x) (h:pp v K=true):∃k z,x= .int (cR k) z∧K k z=true:=by
 cases v<;>first|(cases h;done)|skip
 case int k z=>cases hd;exact⟨k,z,rfl,h⟩
 case sy s=>
  cases s<;>first|(cases h;done)|skip
  case int k z=>cases hd;exact⟨k,z,rfl,h⟩
noncomputable def acm (v:AV) (K:Bool→Bool):Bool:=AV.casesOn v false (fun _ _=>false) K (fun _=>false) (fun _ _=>false) (fun _ _ _ _=>false) (fun _=>false) false false false false false (fun _ _=>false) (fun _ _=>false) (fun _=>false) (fun _=>false) (fun _=>false) (fun _=>false)
 fun s=>SY.casesOn s (fun _ _=>false) (fun p=>bn (aN p) (K true) (K false)) (fun _=>false) (fun _ _ _ _ _=>false) (fun _ _ _=>false) (fun _ _=>false) (fun _ _ _ _ _ _=>false) (fun _ _ _ _=>false) (fun _ _ _=>false) (fun _=>false)
theorem ON {E:Env} {ρ:Ren} {v:AV} {K:Bool→Bool} {x:Value} (hd:den E ρ v=some x) (h:acm v K=true):∃b,x= .bool b∧K b=true:=by
 cases v<;>first|(cases h;done)|skip
 case bool b=>cases hd;exact⟨b,rfl,h⟩
 case sy s=>
  cases s<;>first|(cases h;done)|skip
  case bool p=>
   cases hd
   rcases bi h with⟨q,g⟩|⟨q,g⟩
   ·exact⟨true,by rw[q],g⟩
   ·exact⟨false,by rw[q],g⟩
noncomputable def Fi (v:AV) (K:List UInt8→Bool):Bool:=AV.casesOn v false (fun _ _=>false) (fun _=>false) (fun l=>K (l.map UInt8.ofNat)) (fun _ _=>false) (fun _ _ _ _=>false) (fun _=>false) false false false false false (fun _ _=>false) (fun _ _=>false) (fun _=>false) (fun _=>false) (fun _=>false) (fun _=>false)
 fun s=>SY.casesOn s (fun _ _=>false) (fun _=>false) K (fun _ _ _ _ _=>false) (fun _ _ _=>false) (fun _ _=>false) (fun _ _ _ _ _ _=>false) (fun _ _ _ _=>false) (fun _ _ _=>false) (fun _=>false)
theorem og {E:Env} {ρ:Ren} {v:AV} {K:List UInt8→Bool} {x:Value} (hd:den E ρ v=some x) (h:Fi v K=true):∃l,x=S l∧K l=true:=by
 cases v<;>first|(cases h;done)|skip
 case str l=>cases hd;exact⟨_,rfl,h⟩
 case sy s=>
  cases s<;>first|(cases h;done)|skip
  case str l=>cases hd;exact⟨l,rfl,h⟩
noncomputable def agZ (v:AV) (K:Prop→Bool):Bool:=AV.casesOn v false (fun _ _=>false) (fun b=>K (b=true)) (fun _=>false) (fun _ _=>false) (fun _ _ _ _=>false) (fun _=>false) false false false false false (fun _ _=>false) (fun _ _=>false) (fun _=>false) (fun _=>false) (fun _=>false) (fun _=>false)
 fun s=>SY.casesOn s (fun _ _=>false) K (fun _=>false) (fun _ _ _ _ _=>false) (fun _ _ _=>false) (fun _ _=>false) (fun _ _ _ _ _ _=>false) (fun _ _ _ _=>false) (fun _ _ _=>false) (fun _=>false)
theorem Zs {E:Env} {ρ:Ren} {v:AV} {K:Prop→Bool} {x:Value} (hd:den E ρ v=some x) (h:agZ v K=true):∃p,x= .bool (aN p)∧K p=true:=by
 cases v<;>first|(cases h;done)|skip
 case bool b=>cases hd;exact⟨b=true,by rw[wy],h⟩
 case sy s=>
  cases s<;>first|(cases h;done)|skip
  case bool p=>cases hd;exact⟨p,rfl,h⟩
noncomputable def ae {α:Sort _} (f:α→Bool):Bool:=aN (∀x,f x=true)
noncomputable def aM {α:Sort _} (f:α→Bool):Bool:=aN (∃x,f x=true)
theorem aq {α:Sort _} {f:α→Bool} (h:ae f=true):∀x,f x=true:=prB_true.1 h
theorem ac {α:Sort _} {f:α→Bool} (h:∀x,f x=true):ae f=true:=prB_true.2 h
theorem cd {α:Sort _} {f:α→Bool} (h:aM f=true):∃x,f x=true:=prB_true.1 h
theorem aR {α:Sort _} {f:α→Bool} (x:α) (h:f x=true):aM f=true:=prB_true.2 ⟨x,h⟩
theorem bI {b x:Bool} (h1:b=true) (h2:x=true):aa b x=true:=by subst h1;exact h2
theorem bC {p:Prop} {x:Bool} (h1:p) (h2:x=true):aa (aN p) x=true:=bI (prB_true.2 h1) h2
theorem ai {p:Prop} {x:Bool} (h:aa (aN p) x=true):p∧x=true:=⟨prB_true.1 (aj h).1,(aj h).2⟩
theorem ifP {p:Prop} {x y:Bool} (h1:p→x=true) (h2:¬p→y=true):bn (aN p) x y=true:=by
 by_cases h:p
 ·rw[show aN p=true from prB_true.2 h];exact h1 h
 ·rw[show aN p=false from prB_false.2 h];exact h2 h
theorem jC {p:Prop} {x y:Bool} (h:bn (aN p) x y=true):(p∧x=true)∨(¬p∧y=true):=by
 rcases bi h with⟨q,g⟩|⟨q,g⟩
 ·exact .inl ⟨prB_true.1 q,g⟩
 ·exact .inr ⟨prB_false.1 q,g⟩
def aI (k:Nat) (z:Int):Prop:=match k with
 |0=> -9223372036854775808≤z∧z≤9223372036854775807
 |1=>0≤z∧z≤255
 |2=>0≤z∧z≤65535
 |3=>0≤z∧z≤4294967295
 |4=>0≤z∧z≤18446744073709551615
 |5=> -2147483648≤z∧z≤2147483647
 |6=> -32768≤z∧z≤32767
 |_=> -128≤z∧z≤127
theorem ag7 {k:Nat} {z:Int} (h:aI k z):(cR k).wrap z=z:=by
 match k,h with
 |0,h=>exact Uk h.1 h.2
 |1,h=>exact Yv h.1 h.2
 |2,h=>exact Uj h.1 h.2
 |3,h=>exact Ui h.1 h.2
 |4,h=>exact Uh h.1 h.2
 |5,h=>exact Ul h.1 h.2
 |6,h=>exact IntWalk.i16_in z h
 |k+7,h=>exact IntWalk.i8_in z h
noncomputable def xx (k:Nat) (z:Int) (K:AV→Bool):Bool:=aa (aN (aI k z)) (K (.sy (.int k z)))
theorem vr {E:Env} {ρ:Ren} {k:Nat} {z:Int} {K:AV→Bool} (h:xx k z K=true):(cR k).wrap z=z∧K (.sy (.int k z))=true∧den E ρ (.sy (.int k z))=some (.int (cR k) z):=
 ⟨ag7 (ai h).1,(ai h).2,rfl⟩
def mr:Nat→BinOp
 |0=>.add|1=>.sub|2=>.mul|3=>.quo|_=>.rem
noncomputable def arX (o:Nat) (v1 v2:AV) (K:AV→Bool):Bool:=
 jF v1 fun k a=>jF v2 fun k2 b=>aa (Nat.beq k k2) (
  Nat.rec (yo k (Int.add a b) fun z=>K (.int k z)) (fun o _=>
  Nat.rec (yo k (Int.sub a b) fun z=>K (.int k z)) (fun o _=>
  Nat.rec (yo k (Int.mul a b) fun z=>K (.int k z)) (fun o _=>
  Nat.rec (bn (xP b 0) false (yo k (Int.tdiv a b) fun z=>K (.int k z))) (fun _ _=>
  bn (xP b 0) false (fI (Int.tmod a b) fun z=>K (.int k z))) o) o) o) o)
def LF:Nat→BinOp
 |0=>.and|1=>.or|2=>.xor|_=>.andNot
def GT (o:Nat) (k:Nat) (a b:Int):Int:=
 let x:=BitVec.ofInt (cR k).bits a
 let y:=BitVec.ofInt (cR k).bits b
 (cR k).wrap (match o with|0=>(x&&& y).toNat|1=>(x|||y).toNat|2=>(x ^^^ y).toNat|_=>(x&&& ~~~y).toNat)
noncomputable def agV (o:Nat) (v1 v2:AV) (K:AV→Bool):Bool:=
 jF v1 fun k a=>jF v2 fun k2 b=>aa (Nat.beq k k2) (fI (GT o k a b) fun z=>K (.int k z))
noncomputable def shX (right:Bool) (v1 v2:AV) (K:AV→Bool):Bool:=
 jF v1 fun k a=>jF v2 fun _ b=>bn (xA b 0) false (bn right (fI (Int.fdiv a (2 ^ (min b.toNat (cR k).bits))) fun z=>K (.int k z)) (yo k (Int.mul a (2 ^ (min b.toNat (cR k).bits))) fun z=>K (.int k z)))
theorem qe {v1 v2:AV} {f:Nat→Int→Int→Bool} (h:(jF v1 fun k a=>jF v2 fun k2 b=>aa (Nat.beq k k2) (f k a b))=true):∃k a b,v1= .int k a∧v2= .int k b∧f k a b=true:=by
 obtain⟨k,a,e1,h1⟩:=iF h
 obtain⟨k2,b,e2,h2⟩:=iF h1
 obtain⟨h3,h4⟩:=aj h2
 have:=apz h3
 subst this
 exact⟨k,a,b,e1,e2,h4⟩
theorem ait {v1 v2:AV} {f:Nat→Int→Nat→Int→Bool} (h:(jF v1 fun k a=>jF v2 fun k2 b=>f k a k2 b)=true):∃k a k2 b,v1= .int k a∧v2= .int k2 b∧f k a k2 b=true:=by
 obtain⟨k,a,e1,h1⟩:=iF h
 obtain⟨k2,b,e2,h2⟩:=iF h1
 exact⟨k,a,k2,b,e1,e2,h2⟩
theorem aoG {P:Program} {E:Env} {ρ:Ren} {o:Nat} {v1 v2:AV} {K:AV→Bool} {x y:Value} (h1:den E ρ v1=some x) (h2:den E ρ v2=some y) (h:arX o v1 v2 K=true) (t:TypeId) (p q:Operand):
  ∃v z,den E ρ v=some z∧K v=true∧∀w,((do eqGuard (mr o) t p q x y;binOp (mr o) t x y):Sem Value).run P w= .ok z w:=by
 match o with
 |0=>
  obtain⟨k,a,b,rfl,rfl,g⟩:=qe (f:=fun k a b=>yo k (Int.add a b) fun z=>K (.int k z)) h
  rw[wo]at g
  cases h1;cases h2
  exact⟨_,_,rfl,g,fun w=>by simp[mr,eqGuard,binOp,Op.intArith]<;>rfl⟩
 |1=>
  obtain⟨k,a,b,rfl,rfl,g⟩:=qe (f:=fun k a b=>yo k (Int.sub a b) fun z=>K (.int k z)) h
  rw[wo]at g
  cases h1;cases h2
  exact⟨_,_,rfl,g,fun w=>by simp[mr,eqGuard,binOp,Op.intArith]<;>rfl⟩
 |2=>
  obtain⟨k,a,b,rfl,rfl,g⟩:=qe (f:=fun k a b=>yo k (Int.mul a b) fun z=>K (.int k z)) h
  rw[wo]at g
  cases h1;cases h2
  exact⟨_,_,rfl,g,fun w=>by simp[mr,eqGuard,binOp,Op.intArith]<;>rfl⟩
 |3=>
  obtain⟨k,a,b,rfl,rfl,g⟩:=qe (f:=fun k a b=>bn (xP b 0) false (yo k (Int.tdiv a b) fun z=>K (.int k z))) h
  rcases bi g with⟨_,g⟩|⟨hb,g⟩
  ·cases g
  rw[xO,decide_eq_false_iff_not]at hb
  rw[wo]at g
  cases h1;cases h2
  exact⟨_,_,rfl,g,fun w=>by simp[mr,eqGuard,binOp,Op.intDiv,hb]⟩
 |o+4=>
  obtain⟨k,a,b,rfl,rfl,g⟩:=qe (f:=fun k a b=>bn (xP b 0) false (fI (Int.tmod a b) fun z=>K (.int k z))) h
  rcases bi g with⟨_,g⟩|⟨hb,g⟩
  ·cases g
  rw[xO,decide_eq_false_iff_not]at hb
  rw[GO]at g
  cases h1;cases h2
  exact⟨_,_,rfl,g,fun w=>by simp[mr,eqGuard,binOp,Op.intDiv,hb]⟩
theorem aku {P:Program} {E:Env} {ρ:Ren} {o:Nat} {v1 v2:AV} {K:AV→Bool} {x y:Value} (h1:den E ρ v1=some x) (h2:den E ρ v2=some y) (h:agV o v1 v2 K=true) (t:TypeId) (p q:Operand):
  ∃v z,den E ρ v=some z∧K v=true∧∀w,((do eqGuard (LF o) t p q x y;binOp (LF o) t x y):Sem Value).run P w= .ok z w:=by
 obtain⟨k,a,b,rfl,rfl,g⟩:=qe (f:=fun k a b=>fI (GT o k a b) fun z=>K (.int k z)) h
 rw[GO]at g
 cases h1;cases h2
 refine⟨_,_,rfl,g,fun w=> ?_⟩
 match o with
 |0=>simp[LF,eqGuard,binOp,Op.intBits,GT]
 |1=>simp[LF,eqGuard,binOp,Op.intBits,GT]
 |2=>simp[LF,eqGuard,binOp,Op.intBits,GT]
 |o+3=>simp[LF,eqGuard,binOp,Op.intBits,GT]
theorem ank {P:Program} {E:Env} {ρ:Ren} {right:Bool} {v1 v2:AV} {K:AV→Bool} {x y:Value} (h1:den E ρ v1=some x) (h2:den E ρ v2=some y) (h:shX right v1 v2 K=true) (t:TypeId) (p q:Operand):
  ∃v z,den E ρ v=some z∧K v=true∧∀w,((do eqGuard (bif right then .shr else .shl) t p q x y;binOp (bif right then .shr else .shl) t x y):Sem Value).run P w= .ok z w:=by
 obtain⟨k,a,k2,b,rfl,rfl,g⟩:=ait (f:=fun k a _ b=>bn (xA b 0) false (bn right (fI (Int.fdiv a (2 ^ (min b.toNat (cR k).bits))) fun z=>K (.int k z)) (yo k (Int.mul a (2 ^ (min b.toNat (cR k).bits))) fun z=>K (.int k z)))) h
 rcases bi g with⟨_,g⟩|⟨hb,g⟩
 ·cases g
 rw[Bi,decide_eq_false_iff_not]at hb
 cases h1;cases h2
 rcases bi g with⟨rfl,g⟩|⟨rfl,g⟩
 ·rw[GO]at g
  exact⟨_,_,rfl,g,fun w=>by simp[eqGuard,binOp,Op.shift,hb]⟩
 ·rw[wo]at g
  exact⟨_,_,rfl,g,fun w=>by simp[eqGuard,binOp,Op.shift,hb]<;>rfl⟩
def mq:Nat→BinOp
 |0=>.lss|1=>.leq|2=>.gtr|3=>.geq|4=>.eql|_=>.neq
noncomputable def Fe (o:Nat) (a b:Int):Bool:=
 Nat.rec (xA a b) (fun o _=>Nat.rec (Bool.not (xA b a)) (fun o _=>Nat.rec (xA b a) (fun o _=>Nat.rec (Bool.not (xA a b)) (fun o _=>Nat.rec (xP a b) (fun _ _=>Bool.not (xP a b)) o) o) o) o) o
noncomputable def aox (o:Nat) (v1 v2:AV) (K:AV→Bool):Bool:=
 jF v1 fun k a=>jF v2 fun k2 b=>aa (Nat.beq k k2) (fB (Fe o a b) fun r=>K (.bool r))
theorem akn {P:Program} {E:Env} {ρ:Ren} {o:Nat} {v1 v2:AV} {K:AV→Bool} {x y:Value} (h1:den E ρ v1=some x) (h2:den E ρ v2=some y) (h:aox o v1 v2 K=true) (t:TypeId) (p q:Operand):
  ∃v z,den E ρ v=some z∧K v=true∧∀w,((do eqGuard (mq o) t p q x y;binOp (mq o) t x y):Sem Value).run P w= .ok z w:=by
 obtain⟨k,a,b,rfl,rfl,g⟩:=qe (f:=fun k a b=>fB (Fe o a b) fun r=>K (.bool r)) h
 rw[zO]at g
 cases h1;cases h2
 refine⟨_,_,rfl,g,fun w=> ?_⟩
 match o with
 |0=>
  have:Fe 0 a b=decide (a<b):=Bi a b
  simp[mq,this,eqGuard,binOp,Op.intCmp]
 |1=>
  have:Fe 1 a b=decide (a≤b):=by
   show Bool.not (xA b a)=_
   rw[Bi,Bool.eq_iff_iff]
   simp
  simp[mq,this,eqGuard,binOp,Op.intCmp]
 |2=>
  have:Fe 2 a b=decide (b<a):=Bi b a
  simp[mq,this,eqGuard,binOp,Op.intCmp]
 |3=>
  have:Fe 3 a b=decide (b≤a):=by
   show Bool.not (xA a b)=_
   rw[Bi,Bool.eq_iff_iff]
   simp
  simp[mq,this,eqGuard,binOp,Op.intCmp]
 |4=>
  have:Fe 4 a b=decide (a=b):=xO a b
  simp[mq,this,eqGuard,binOp,Op.intCmp,pn]
 |o+5=>
  have:Fe (o+5) a b= !decide (a=b):=congrArg Bool.not (xO a b)
  simp[mq,this,eqGuard,binOp,Op.intCmp,bne,pn]
theorem ag9 {l m:List Nat} (hl:l.all (Nat.blt · 256)=true) (hm:m.all (Nat.blt · 256)=true):l.map UInt8.ofNat=m.map UInt8.ofNat↔l=m:=by
 constructor
 ·intro h
  induction l generalizing m with
  |nil=>cases m<;>simp at h ⊢
  |cons x l ih=>
   cases m with
   |nil=>simp at h
   |cons y m=>
    simp only[List.map_cons,List.cons.injEq]at h
    simp only[List.all_cons,apP,apV]at hl hm
    have:x=y:=by
     have:=congrArg UInt8.toNat h.1
     simp only[UInt8.toNat_ofNat']at this
     omega
    rw[this,ih hl.2 hm.2 h.2]
 ·rintro rfl;rfl
noncomputable def ahZ (v1 v2:AV) (K:AV→Bool):Bool:=
 qX v1 fun l=>qX v2 fun m=>aa (Nat.blt (Nat.add (db l) (db m)) 140737488355328) (app l m fun r=>K (.str r))
theorem afZ {P:Program} {E:Env} {ρ:Ren} {v1 v2:AV} {K:AV→Bool} {x y:Value} (h1:den E ρ v1=some x) (h2:den E ρ v2=some y) (h:ahZ v1 v2 K=true) (t:TypeId) (p q:Operand):
  ∃v z,den E ρ v=some z∧K v=true∧∀w,((do eqGuard .add t p q x y;binOp .add t x y):Sem Value).run P w= .ok z w:=by
 obtain⟨l,e1,g1⟩:=jj h
 obtain⟨m,e2,g2⟩:=jj g1
 obtain⟨hb,g⟩:=aj g2
 rw[BC]at g
 subst e1;subst e2
 cases h1;cases h2
 refine⟨_,_,rfl,g,fun w=> ?_⟩
 rw[cw,cw,apV]at hb
 have hb:l.length+m.length<140737488355328:=hb
 have e:(⟨(l.map UInt8.ofNat).toArray⟩:ByteArray)++⟨(m.map UInt8.ofNat).toArray⟩=⟨((l++m).map UInt8.ofNat).toArray⟩:=by
  apply ByteArray.ext
  simp
 have e1:ByteArray.size ⟨(l.map UInt8.ofNat).toArray⟩=l.length:=by simp[ByteArray.size]
 have e2:ByteArray.size ⟨(m.map UInt8.ofNat).toArray⟩=m.length:=by simp[ByteArray.size]
 simp[eqGuard,binOp,Op.stringOp,e1,e2,e]
 omega
noncomputable def BQ (l:List Nat):Bool:=List.rec true (fun x _ ih=>Bool.rec false ih (Nat.blt x 256)) l
theorem KJ:∀l,BQ l=l.all (Nat.blt · 256)
 |[]=>rfl
 |x::l=>by
  have:BQ (x::l)=Bool.rec (motive:=fun _=>Bool) false (BQ l) (Nat.blt x 256):=rfl
  rw[this,KJ l,List.all_cons]
  cases Nat.blt x 256<;>rfl
noncomputable def anl (ne:Bool) (v1 v2:AV) (K:AV→Bool):Bool:=
 qX v1 fun l=>qX v2 fun m=>aa (BQ l) (aa (BQ m) (fB (Bool.rec (Sw l m) (Bool.not (Sw l m)) ne) fun r=>K (.bool r)))
theorem ajp {P:Program} {E:Env} {ρ:Ren} {ne:Bool} {v1 v2:AV} {K:AV→Bool} {x y:Value} (h1:den E ρ v1=some x) (h2:den E ρ v2=some y) (h:anl ne v1 v2 K=true) (t:TypeId) (p q:Operand):
  ∃v z,den E ρ v=some z∧K v=true∧∀w,((do eqGuard (bif ne then .neq else .eql) t p q x y;binOp (bif ne then .neq else .eql) t x y):Sem Value).run P w= .ok z w:=by
 obtain⟨l,e1,g1⟩:=jj h
 obtain⟨m,e2,g2⟩:=jj g1
 obtain⟨hl,g3⟩:=aj g2
 obtain⟨hm,g⟩:=aj g3
 rw[KJ]at hl hm
 rw[zO]at g
 subst e1;subst e2
 cases h1;cases h2
 refine⟨_,_,rfl,g,fun w=> ?_⟩
 have hi:=ag9 hl hm
 cases ne
 ·simp only[cond_false,eqGuard,binOp,Op.stringOp,pb,By,apH,Sem.run_pure,apG]
  by_cases h:l=m
  ·subst h;simp
  ·simp[h,hi]
 ·simp only[cond_true,eqGuard,binOp,Op.stringOp,pb,By,apH,Sem.run_pure,apG]
  by_cases h:l=m
  ·subst h;simp
  ·simp[h,hi]
noncomputable def anD (v:AV) (K:AV→Bool):Bool:=Zt v fun b=>fB (Bool.not b) fun r=>K (.bool r)
theorem ajA {P:Program} {E:Env} {ρ:Ren} {v:AV} {K:AV→Bool} {x:Value} (h1:den E ρ v=some x) (h:anD v K=true):∃u z,den E ρ u=some z∧K u=true∧∀w,(Op.unary .not x).run P w= .ok z w:=by
 replace h:=Ns h
 obtain⟨b,rfl,g⟩:=h
 try dsimp only at g
 rw[zO]at g
 simp only[den,apQ]at h1
 subst h1
 exact⟨_,_,rfl,g,fun w=>by simp[Op.unary]⟩
noncomputable def anF (v:AV) (K:AV→Bool):Bool:=jF v fun k z=>yo k (Int.neg z) fun r=>K (.int k r)
theorem ajC {P:Program} {E:Env} {ρ:Ren} {v:AV} {K:AV→Bool} {x:Value} (h1:den E ρ v=some x) (h:anF v K=true):∃u z,den E ρ u=some z∧K u=true∧∀w,(Op.unary .neg x).run P w= .ok z w:=by
 replace h:=iF h
 obtain⟨k,z,rfl,h⟩:=h
 try dsimp only at h
 rw[wo]at h
 simp only[den,apQ]at h1
 subst h1
 exact⟨_,_,rfl,h,fun w=>by simp[Op.unary,Op.intArith];rfl⟩
def aos (k:Nat) (z:Int):Int:=(cR k).wrap ((BitVec.ofInt (cR k).bits (if (cR k).signed then -1 else (cR k).max)) ^^^ (BitVec.ofInt (cR k).bits z)).toNat
noncomputable def aot (v:AV) (K:AV→Bool):Bool:=jF v fun k z=>fI (aos k z) fun r=>K (.int k r)
theorem aki {P:Program} {E:Env} {ρ:Ren} {v:AV} {K:AV→Bool} {x:Value} (h1:den E ρ v=some x) (h:aot v K=true):∃u z,den E ρ u=some z∧K u=true∧∀w,(Op.unary .xor x).run P w= .ok z w:=by
 replace h:=iF h
 obtain⟨k,z,rfl,h⟩:=h
 try dsimp only at h
 rw[GO]at h
 simp only[den,apQ]at h1
 subst h1
 exact⟨_,_,rfl,h,fun w=>by simp[Op.unary,Op.intBits,aos]⟩
noncomputable def aow (k:Nat) (v:AV) (K:AV→Bool):Bool:=jF v fun _ z=>yo k z fun r=>K (.int k r)
theorem akl {P:Program} {E:Env} {ρ:Ren} {k:Nat} {v:AV} {K:AV→Bool} {x:Value} (h1:den E ρ v=some x) (h:aow k v K=true) {src dst:TypeId} (hs:(P.underlying src).isSome=true) (hd:P.underlying dst=some (.int (cR k))):
  ∃u z,den E ρ u=some z∧K u=true∧∀w,(convert src dst x).run P w= .ok z w:=by
 replace h:=iF h
 obtain⟨k0,z,rfl,h⟩:=h
 try dsimp only at h
 rw[wo]at h
 simp only[den,apQ]at h1
 subst h1
 obtain⟨d,hs⟩:=Option.isSome_iff_exists.1 hs
 exact⟨_,_,rfl,h,fun w=>by simp[convert,run_underlying hs,run_underlying hd,Conv.intToInt]⟩
noncomputable def ao3 (v:AV) (K:Bool→Bool):Bool:=AV.casesOn v false (fun _ _=>false) (fun _=>false) (fun _=>false) (fun _ _=>K false) (fun _ _ _ _=>K false) (fun _=>K false) (K true) (K true) (K true) (K true) (K true) (fun _ _=>K false) (fun _ _=>K false) (fun _=>K false) (fun _=>false) (fun _=>false) (fun _=>false) (fun _=>false)
noncomputable def ah5 (v:AV):Nat:=AV.casesOn v 0 (fun _ _=>0) (fun _=>0) (fun _=>0) (fun _ _=>1) (fun _ _ _ _=>2) (fun _=>3) 1 2 3 4 5 (fun _ _=>5) (fun _ _=>4) (fun _=>4) (fun _=>0) (fun _=>0) (fun _=>0) (fun _=>0)
def UQ (P:Program) (t:TypeId) (kd:Nat):Option Value:=match P.underlying t,kd with
 |some (.pointer _),1=>some (.pointer none)|some (.slice _),2=>some (.slice none 0 0)|some (.map _ _),3=>some (.map none)|some (.func _ _ _),4=>some .nilFunc|some (.interface _),5=>some .nilIface|_,_=>none
noncomputable def aoc (ne:Bool) (kd:Nat) (v:AV) (K:AV→Bool):Bool:=aa (Nat.beq (ah5 v) kd) (ao3 v fun b=>fB (Bool.rec b (Bool.not b) ne) fun r=>K (.bool r))
section
variable {P:Program} {t:TypeId} {w:World} {d:Nat}
theorem GP {e:TypeId} (hu:P.underlying t=some (.pointer e)) (p:Option Addr):(Op.equalIn (d+1) t (.pointer p) (.pointer none)).run P w= .ok p.isNone w:=by
 cases p<;>(simp only[Op.equalIn,apH,run_underlying hu,apG];rfl)
theorem EZ {e:TypeId} (hu:P.underlying t=some (.slice e)) (p:Option Addr) (n c:Nat):(Op.equalIn (d+1) t (.slice p n c) (.slice none 0 0)).run P w= .ok p.isNone w:=by
 cases p<;>(simp only[Op.equalIn,apH,run_underlying hu,apG];rfl)
theorem GQ {e f:TypeId} (hu:P.underlying t=some (.map e f)) (p:Option Nat):(Op.equalIn (d+1) t (.map p) (.map none)).run P w= .ok p.isNone w:=by
 cases p<;>(simp only[Op.equalIn,apH,run_underlying hu,apG];rfl)
theorem Zj {a b c} (hu:P.underlying t=some (.func a b c)):(Op.equalIn (d+1) t .nilFunc .nilFunc).run P w= .ok true w:=by
 simp only[Op.equalIn,apH,run_underlying hu,apG];rfl
theorem aei {a b c} (hu:P.underlying t=some (.func a b c)) (f:Fn) (x y:Array Value):(Op.equalIn (d+1) t (.func f x y) .nilFunc).run P w= .ok false w:=by
 simp only[Op.equalIn,apH,run_underlying hu,apG];rfl
theorem aeh {m} (hu:P.underlying t=some (.interface m)):(Op.equalIn (d+1) t .nilIface .nilIface).run P w= .ok true w:=by
 simp only[Op.equalIn,apH,run_underlying hu,apG];rfl
theorem ah8 {m} (hu:P.underlying t=some (.interface m)) (u:TypeId) (x:Value):(Op.equalIn (d+1) t (.iface u x) .nilIface).run P w= .ok false w:=by
 simp only[Op.equalIn,apH,run_underlying hu,apG];rfl
end
theorem aj9 {P:Program} {E:Env} {ρ:Ren} {ne:Bool} {kd:Nat} {v:AV} {K:AV→Bool} {x:Value} {t:TypeId} {y:Value} (hn:UQ P t kd=some y) (h1:den E ρ v=some x) (h:aoc ne kd v K=true) (p:Operand) (c:Value):
  ∃u z,den E ρ u=some z∧K u=true∧∀w,((do eqGuard (bif ne then .neq else .eql) t p (.const c) x y;binOp (bif ne then .neq else .eql) t x y):Sem Value).run P w= .ok z w:=by
 obtain⟨hk,h2⟩:=aj h
 have hk:=apz hk
 have key:∀(b:Bool),fB (Bool.rec b (Bool.not b) ne) (fun r=>K (.bool r))=true→(∀w,((do eqGuard (bif ne then .neq else .eql) t p (.const c) x y;binOp (bif ne then .neq else .eql) t x y):Sem Value).run P w= .ok (.bool (bif ne then !b else b)) w)→
   ∃u z,den E ρ u=some z∧K u=true∧∀w,((do eqGuard (bif ne then .neq else .eql) t p (.const c) x y;binOp (bif ne then .neq else .eql) t x y):Sem Value).run P w= .ok z w:=by
  intro b hb hr
  rw[zO]at hb
  refine⟨_,_,rfl,hb,fun w=> ?_⟩
  rw[hr]
  cases ne<;>rfl
 unfold UQ at hn
 split at hn<;>first|(cases hn;done)|skip
 all_goals
  have hu:= ‹P.underlying t=some _›
  cases hn
  cases v<;>first|(simp[ah5]at hk;done)|skip
 all_goals
  have ho:∀x y:Value,Op.equal t x y=Op.equalIn (9999+1) t x y:=fun _ _=>rfl
  unfold den at h1
  try split at h1
  all_goals first|(cases h1;done)|skip
  all_goals
   cases h1
   first
    |(refine key true h2 (fun w=> ?_);cases ne<;>simp[eqGuard,binOp,ho,GP hu,EZ hu,GQ hu,Zj hu,aeh hu];done)
    |(refine key false h2 (fun w=> ?_);cases ne<;>simp[eqGuard,binOp,ho,GP hu,EZ hu,GQ hu,aei hu,ah8 hu];done)
    |(refine key true h2 (fun w=> ?_);cases ne<;>simp[eqGuard,binOp,ho,GP hu];done)
    |(refine key false h2 (fun w=> ?_);cases ne<;>simp[eqGuard,binOp,ho,GP hu];done)
    |(refine key true h2 (fun w=> ?_);cases ne<;>simp[eqGuard,binOp,ho,EZ hu];done)
    |(refine key false h2 (fun w=> ?_);cases ne<;>simp[eqGuard,binOp,ho,EZ hu];done)
    |(refine key true h2 (fun w=> ?_);cases ne<;>simp[eqGuard,binOp,ho,GQ hu];done)
    |(refine key false h2 (fun w=> ?_);cases ne<;>simp[eqGuard,binOp,ho,GQ hu];done)
    |(refine key true h2 (fun w=> ?_);cases ne<;>simp[eqGuard,binOp,ho,Zj hu];done)
    |(refine key false h2 (fun w=> ?_);cases ne<;>simp[eqGuard,binOp,ho,aei hu];done)
    |(refine key true h2 (fun w=> ?_);cases ne<;>simp[eqGuard,binOp,ho,aeh hu];done)
    |(refine key false h2 (fun w=> ?_);cases ne<;>simp[eqGuard,binOp,ho,ah8 hu];done)
noncomputable def eu {α:Type _} (o:Option α) (K:α→Bool):Bool:=Option.casesOn o false K
theorem ci {α:Type _} {o:Option α} {K:α→Bool} (h:eu o K=true):∃x,o=some x∧K x=true:=by
 cases o with
 |none=>cases h
 |some x=>exact⟨x,rfl,h⟩
noncomputable def eH (M:T) (i:Nat) (K:Bool→Nat→Nat→List (List AV)→Bool):Bool:=eu (M.get i) fun ob=>AObj.casesOn ob K (fun _ _=>false) (fun _ _ _ _=>false) false (fun _ _ _ _ _=>false) (fun _ _ _ _ _ _ _=>false)
theorem cM {M:T} {i:Nat} {K:Bool→Nat→Nat→List (List AV)→Bool} (h:eH M i K=true):∃g Ty sz els,M.get i=some (.blk g Ty sz els)∧K g Ty sz els=true:=by
 obtain⟨ob,h1,h2⟩:=ci h
 cases ob<;>first|exact⟨_,_,_,_,h1,h2⟩|cases h2
noncomputable def te (M:T) (i:Nat) (K:List (AV×AV×Nat)→Nat→Bool):Bool:=eu (M.get i) fun ob=>AObj.casesOn ob (fun _ _ _ _=>false) K (fun _ _ _ _=>false) false (fun _ _ _ _ _=>false) (fun _ _ _ _ _ _ _=>false)
theorem kB {M:T} {i:Nat} {K:List (AV×AV×Nat)→Nat→Bool} (h:te M i K=true):∃es cl,M.get i=some (.map es cl)∧K es cl=true:=by
 obtain⟨ob,h1,h2⟩:=ci h
 cases ob<;>first|exact⟨_,_,h1,h2⟩|cases h2
noncomputable def VI (M:T) (i:Nat) (K:Option Nat→Nat→List Nat→Nat→Bool):Bool:=eu (M.get i) fun ob=>AObj.casesOn ob (fun _ _ _ _=>false) (fun _ _=>false) K false (fun _ _ _ _ _=>false) (fun _ _ _ _ _ _ _=>false)
theorem Sd {M:T} {i:Nat} {K:Option Nat→Nat→List Nat→Nat→Bool} (h:VI M i K=true):∃m s se st,M.get i=some (.iter m s se st)∧K m s se st=true:=by
 obtain⟨ob,h1,h2⟩:=ci h
 cases ob<;>first|exact⟨_,_,_,_,h1,h2⟩|cases h2
theorem uS {α:Type _} {sz:Nat}:∀{els:List (List α)} {q:Nat} {el:List α},(∀l∈els,l.length=sz)→els[q]?=some el→∃rest,els.flatten.drop (q*sz)=el++rest∧(q+1)*sz≤els.flatten.length
 |[],q,el,_,h=>by simp at h
 |x::els,0,el,ha,h=>by
  simp at h;subst h
  refine⟨els.flatten,by simp,?_⟩
  have:=ha x (by simp)
  simp[this]
 |x::els,q+1,el,ha,h=>by
  obtain⟨rest,h1,h2⟩:=uS (fun l hl=>ha l (by simp[hl])) (show els[q]?=some el by simpa using h)
  have hx:=ha x (by simp)
  refine⟨rest,?_,?_⟩
  ·rw[apB,Nat.add_mul,Nat.one_mul,Nat.add_comm,←hx,←List.drop_drop,List.drop_left,hx]
   exact h1
  ·rw[apB,apv,hx,Nat.add_mul (q+1)]
   omega
theorem fe {α:Type _} {sz:Nat}:∀{els:List (List α)},(∀l∈els,l.length=sz)→els.flatten.length=els.length*sz
 |[],_=>by simp
 |x::els,ha=>by
  rw[apB,apv,ha x (by simp),fe (fun l hl=>ha l (by simp[hl])),apw,Nat.add_mul]
  omega
theorem EO {α:Type _} {sz:Nat} {els:List (List α)} {q r:Nat} {el:List α} {v:α} (ha:∀l∈els,l.length=sz) (hq:els[q]?=some el) (hv:el[r]?=some v):els.flatten[q*sz+r]?=some v:=by
 obtain⟨rest,h1,_⟩:=uS ha hq
 rw[←List.getElem?_drop,h1,List.getElem?_append_left (List.getElem?_eq_some_iff.1 hv).1]
 exact hv
theorem air {α:Type _} {A el B vs:List α} {n r:Nat} (hA:A.length=n) (hr:r+vs.length≤el.length):
  A++(el.take r++vs++el.drop (r+vs.length))++B=(A++(el++B)).take (n+r)++vs++(A++(el++B)).drop (n+r+vs.length):=by
 subst hA
 have h1:(A++(el++B)).take (A.length+r)=A++el.take r:=by
  rw[List.take_append,List.take_of_length_le (by omega),Nat.add_sub_cancel_left,List.take_append_of_le_length (by omega)]
 have h2:(A++(el++B)).drop (A.length+r+vs.length)=el.drop (r+vs.length)++B:=by
  rw[List.drop_append,List.drop_of_length_le (by omega),apD,show A.length+r+vs.length - A.length=r+vs.length by omega,List.drop_append_of_le_length hr]
 rw[h1,h2]
 simp only[List.append_assoc]
theorem HQ {α:Type _} {arr xs ys:List α} {o L:Nat} (hx:arr.take L=xs) (ho:o+ys.length≤L) (hL:L≤arr.length):(arr.take o++ys++arr.drop (o+ys.length)).take L=xs.take o++ys++xs.drop (o+ys.length):=by
 subst hx
 rw[List.take_take,Nat.min_eq_left (by omega),List.drop_take,List.take_append,List.take_of_length_le (by simp only[apv,apL];omega)]
 congr 1
 congr 1
 simp only[apv,apL]
 omega
theorem VY {α:Type _} {sz:Nat} {els:List (List α)} {q r:Nat} {el vs:List α} (ha:∀l∈els,l.length=sz) (hq:els[q]?=some el) (hr:r+vs.length≤el.length):
  (els.take q++[el.take r++vs++el.drop (r+vs.length)]++els.drop (q+1)).flatten=els.flatten.take (q*sz+r)++vs++els.flatten.drop (q*sz+r+vs.length):=by
 have hlt:=(List.getElem?_eq_some_iff.1 hq).1
 have he:els.drop q=el::els.drop (q+1):=by
  rw[List.drop_eq_getElem_cons hlt]
  congr 1
  exact(List.getElem?_eq_some_iff.1 hq).2
 have hl:(els.take q).flatten.length=q*sz:=by
  rw[fe (sz:=sz) (fun l hl=>ha l (List.mem_of_mem_take hl)),apL,Nat.min_eq_left (Nat.le_of_lt hlt)]
 have hflat:els.flatten=(els.take q).flatten++(el++(els.drop (q+1)).flatten):=by
  rw[←apB,←he,←List.flatten_append,List.take_append_drop]
 rw[hflat,←air hl hr]
 simp
section
variable {P:Program} {E:Env} {ρ:Ren} {G:GS} {F:List bh} {M:T} {nx:Nat} {w:World}
theorem Sim.cellsAt (h:Sim E ρ G F M nx w) {i:Nat} {g:Bool} {Ty sz:Nat} {els:List (List AV)} (hi:M.get i=some (.blk g Ty sz els)):
  ∃e arr xs,ρ i=some e∧w.heap[e.b]?=some (.cells arr Ty (0,0))∧aS E ρ els.flatten=some xs∧(∀l∈els,l.length=sz)∧0<sz∧xs.length≤arr.size∧arr.toList.take xs.length=xs∧
   (g=false→arr.toList=xs)∧(g=true→arr.size=e.cap*sz∧els.length≤e.cap∧e.cap≤maxLen):=by
 obtain⟨e,ob,h1,h2,h3⟩:=h.obj hi
 obtain⟨ha,hs,arr,xs,rfl,hd,hg⟩:=h3
 have hx:=cL hd
 rw[fe ha]at hx
 cases g with
 |false=>
  simp only[cond_false]at hg
  refine⟨e,arr,xs,h1,h2,hd,ha,hs,by rw[←hg];simp,by rw[←hg];exact List.take_of_length_le (apM _),fun _=>hg,fun q=>by cases q⟩
 |true=>
  simp only[cond_true]at hg
  obtain⟨g1,g2,g3,g4⟩:=hg
  refine⟨e,arr,xs,h1,h2,hd,ha,hs,?_,by rw[hx];exact g2,(fun q=>by cases q),fun _=>⟨g1,g3,g4⟩⟩
  rw[hx,g1]
  exact Nat.mul_le_mul_right _ g3
theorem Sim.cell (h:Sim E ρ G F M nx w) {i:Nat} {g:Bool} {Ty sz q r:Nat} {els:List (List AV)} {el:List AV} {v:AV} (hi:M.get i=some (.blk g Ty sz els)) (hq:els[q]?=some el) (hv:el[r]?=some v):
  ∃e x,ρ i=some e∧den E ρ v=some x∧w.cell? ⟨e.b,q*sz+r,none⟩=some x:=by
 obtain⟨e,arr,xs,h1,h2,h3,h4,_,h6,h7,_⟩:=h.cellsAt hi
 obtain⟨x,hx,hxs⟩:=rO h3 (EO h4 hq hv)
 refine⟨e,x,h1,hx,?_⟩
 have hlt:=(List.getElem?_eq_some_iff.1 hxs).1
 rw[←h7,apO hlt]at hxs
 simp only[World.cell?,h2]
 simpa using hxs
theorem Sim.cells (h:Sim E ρ G F M nx w) {i:Nat} {g:Bool} {Ty sz q r n:Nat} {els:List (List AV)} {el:List AV} (hi:M.get i=some (.blk g Ty sz els)) (hq:els[q]?=some el) (hn:n≤(el.drop r).length):
  ∃e xs,ρ i=some e∧aS E ρ ((el.drop r).take n)=some xs∧xs.length=n∧∀j v,xs[j]?=some v→w.cell? ⟨e.b,q*sz+r+j,none⟩=some v:=by
 obtain⟨e,arr,ys,h1,h2,h3,h4,_,h6,h7,_⟩:=h.cellsAt hi
 obtain⟨rest,h8,_⟩:=uS h4 hq
 have hd:=pm (q*sz) h3
 rw[h8]at hd
 obtain⟨as,bs,ha,hb,hab⟩:=ff hd
 have hd2:=tS n (pm r ha)
 refine⟨e,_,h1,hd2,?_,fun j v hv=> ?_⟩
 ·have:=cL hd2
  rw[this,apL];omega
 ·obtain⟨u,hu,hu2⟩:∃u,((el.drop r).take n)[j]?=some u∧den E ρ u=some v:=by
   have hl:=cL hd2
   have hj:=(List.getElem?_eq_some_iff.1 hv).1
   obtain⟨u,hu⟩:∃u,((el.drop r).take n)[j]?=some u:=⟨_,List.getElem?_eq_getElem (by omega)⟩
   obtain⟨x,hx,hx2⟩:=rO hd2 hu
   rw[hx2]at hv;cases hv
   exact⟨u,hu,hx⟩
  have hjn:j<n:=by
   have:=(List.getElem?_eq_some_iff.1 hu).1
   rw[apL]at this;omega
  rw[apO hjn,List.getElem?_drop]at hu
  obtain⟨e',x,e1,e2,e3⟩:=h.cell hi hq hu
  rw[h1]at e1;cases e1
  rw[hu2]at e2;cases e2
  rw[Nat.add_assoc]
  exact e3
noncomputable def an5 (v:AV) (M:T) (K:AV→Bool):Bool:=nz v fun i o=>eH M i fun _ _ sz els=>eu (fb els (Nat.div o sz)) fun el=>eu (fb el (Nat.mod o sz)) K
theorem aj2 (h:Sim E ρ G F M nx w) {v:AV} {K:AV→Bool} {x:Value} (hv:den E ρ v=some x) (hk:an5 v M K=true) {t:TypeId} (hag:kC P t=some false):∃u z,den E ρ u=some z∧K u=true∧(Instr.loadAt t x).run P w= .ok z w:=by
 obtain⟨i,o,rfl,k1⟩:=ie hk
 obtain⟨g,Ty,sz,els,hi,k2⟩:=cM k1
 obtain⟨el,hq,k3⟩:=ci k2
 obtain⟨u,hr,k4⟩:=ci k3
 rw[iA]at hq hr
 obtain⟨e,z,h1,h2,h3⟩:=h.cell hi hq hr
 have ho:Nat.div o sz*sz+Nat.mod o sz=o:=by
  have:=Nat.div_add_mod o sz
  rw[Nat.mul_comm];exact this
 rw[ho]at h3
 simp only[den,h1]at hv
 cases hv
 exact⟨u,z,h2,k4,by simp[Instr.loadAt,Instr.sureAddr,loadVar,run_isAgg hag,load,Sem.run,h3]⟩
noncomputable def an3 (n:Nat) (v:AV) (M:T) (K:AV→Bool):Bool:=nz v fun i o=>eH M i fun _ _ sz els=>eu (fb els (Nat.div o sz)) fun el=>DC (Bz el (Nat.mod o sz)) n fun cs=>K (.agg cs)
theorem aj1 (h:Sim E ρ G F M nx w) {n:Nat} {v:AV} {K:AV→Bool} {x:Value} (hv:den E ρ v=some x) (hk:an3 n v M K=true) {t:TypeId} (hag:kC P t=some true) (hs:cA P t=some n):∃u z,den E ρ u=some z∧K u=true∧(Instr.loadAt t x).run P w= .ok z w:=by
 obtain⟨i,o,rfl,k1⟩:=ie hk
 obtain⟨g,Ty,sz,els,hi,k2⟩:=cM k1
 obtain⟨el,hq,k3⟩:=ci k2
 rw[iA]at hq
 obtain⟨k4,hle⟩:=AI k3
 rw[xQ]at k4 hle
 obtain⟨e,xs,h1,h2,h3,h4⟩:=h.cells hi hq hle
 have ho:Nat.div o sz*sz+Nat.mod o sz=o:=by
  have:=Nat.div_add_mod o sz
  rw[Nat.mul_comm];exact this
 rw[ho]at h4
 simp only[den,h1]at hv
 cases hv
 subst h3
 have:=Go.Eng.run_loadCells (P:=P) (w:=w) e.b o xs 0 #[] (fun j v hv=>by simpa using h4 j v hv)
 exact⟨_,.agg xs.toArray,by simp only[den,h2],k4,by simp[Instr.loadAt,Instr.sureAddr,loadVar,Go.Eng.run_isAgg hag,Go.Eng.run_sizeOf hs,loadCells,this]⟩
theorem BR {b:Nat} {Ty:TypeId} (o:Nat):∀(vs:List Value) (i:Nat) (w:World) (c:Array Value),w.heap[b]?=some (.cells c Ty (0,0))→o+i+vs.length≤c.size→vs.all Value.oneCell'=true→
  ∃w',(storeCells ⟨b,o,none⟩ vs i).run P w= .ok () w'∧w'.heap[b]?=some (.cells (gV c (o+i) vs) Ty (0,0))∧w'.os=w.os∧w'.tape=w.tape∧w'.output=w.output∧w'.heap.size=w.heap.size∧∀k,k≠b→w'.heap[k]?=w.heap[k]?
 |[],i,w,c,h,_,_=>⟨w,rfl,h,rfl,rfl,rfl,rfl,fun _ _=>rfl⟩
 |v::vs,i,w,c,hown,hb,h1=>by
  simp only[apw]at hb
  simp only[List.all_cons,apP]at h1
  have hcell:w.cell? ⟨b,o+i,none⟩=some (c[o+i]'(by omega)):=by
   simp only[World.cell?,hown]
   exact Array.getElem?_eq_getElem (by omega)
  have hfr:w.frozen? ⟨b,o+i,none⟩=false:=by simp[World.frozen?,hown]
  have hrun:∀k:Sem Unit,(Sem.store .plain ⟨b,o+i,none⟩ v k).run P w=k.run P (w.setCell ⟨b,o+i,none⟩ v):=by
   intro k
   have:=h1.1
   cases v<;>simp[Value.oneCell']at this<;>simp[Sem.run,hcell,hfr]
  have hself:(w.setCell ⟨b,o+i,none⟩ v).heap[b]?=some (.cells (c.setIfInBounds (o+i) v) Ty (0,0)):=by
   simp[World.setCell,Array.getElem?_modify,hown]
  obtain⟨w',hr,h2,h3,h4,h5,h6,h7⟩:=BR o vs (i+1) (w.setCell ⟨b,o+i,none⟩ v) (c.setIfInBounds (o+i) v) hself (by simp;omega) h1.2
  refine⟨w',?_,h2,h3,h4,h5,by rw[h6];simp[World.setCell],fun k hk=> ?_⟩
  ·simp only[storeCells,apH,de,store,hrun]
   simp only[Sem.run,apG,hr]
  ·rw[h7 k hk]
   exact Below.heap_setCell _ _ _ _ hk
noncomputable def bM:Nat:=24
noncomputable def stX (n:Nat) (v x:AV) (M:T) (K:T→Bool):Bool:=
 nz v fun i o=>eH M i fun g Ty sz els=>eu (fb els (Nat.div o sz)) fun el=>aa (Nat.beq (db (cn x)) n) (aa (Nt (cn x))
  (nR el (Nat.mod o sz) (cn x) fun el'=>nR els (Nat.div o sz) [el'] fun els'=>T.set bM M i (some (.blk g Ty sz els')) K))
theorem Yy (hE:fV E) (h:Sim E ρ G F M nx w) {n:Nat} {v x:AV} {K:T→Bool} {p y:Value} (hv:den E ρ v=some p) (hx:den E ρ x=some y) (hk:stX n v x M K=true) {t:TypeId} (hs:cA P t=some n):
  ∃M' w',Sim E ρ G F M' nx w'∧K M'=true∧(Instr.storeAt t p y).run P w= .ok () w'∧∀a,p= .pointer (some a)→(storeCells a y.cells.toList).run P w= .ok () w':=by
 obtain⟨i,o,rfl,k1⟩:=ie hk
 obtain⟨g,Ty,sz,els,hi,k2⟩:=cM k1
 obtain⟨el,hq,k3⟩:=ci k2
 rw[iA]at hq
 obtain⟨hn,k4⟩:=aj k3
 obtain⟨h1,k5⟩:=aj k4
 obtain⟨k6,hle⟩:=fJ k5
 obtain⟨k7,hle2⟩:=fJ k6
 obtain⟨M',hK,hg1,hg2⟩:=T.set_ok _ _ _ _ _ k7
 obtain⟨e,arr,xs,e1,e2,e3,e4,e5,e6,e7,e8,e9⟩:=h.cellsAt hi
 have hcx:=qW hE hx
 have hcl:=cL hcx
 have hn':(cn x).length=n:=by rw[←cw];exact apz hn
 have ho:Nat.div o sz*sz+Nat.mod o sz=o:=by
  have:=Nat.div_add_mod o sz
  rw[Nat.mul_comm];exact this
 obtain⟨rest,r1,r2⟩:=uS e4 hq
 have hell:=e4 el (apA hq)
 have hxl:=cL e3
 have hsz:o+(cn x).length≤xs.length:=by
  rw[hxl]
  have:(Nat.div o sz+1)*sz=Nat.div o sz*sz+sz:=by rw[Nat.add_mul,Nat.one_mul]
  omega
 obtain⟨w',hr,w1,w2,w3,w4,w5,w6⟩:=BR (P:=P) o y.cells.toList 0 w arr e2 (by rw[hcl];omega) (CK hE h1 hcx)
 rw[Nat.add_zero]at w1
 simp only[den,e1]at hv
 cases hv
 refine⟨M',w',h.turn hi e1 w2 w3 w4 (fun b _ hb=>w6 b hb) w1 ?_ hg1 hg2,hK,?_,fun a ha=>by cases ha;exact hr⟩
 ·have hsp:=yp y.cells.toList arr o (by rw[hcl];omega)
  have hlen':∀l∈els.take (Nat.div o sz)++[el.take (Nat.mod o sz)++cn x++el.drop (Nat.mod o sz+(cn x).length)]++els.drop (Nat.div o sz+1),l.length=sz:=by
   intro l hl
   simp only[apK,List.mem_singleton]at hl
   rcases hl with(hl|rfl)|hl
   ·exact e4 l (List.mem_of_mem_take hl)
   ·simp only[apv,apL,apW];omega
   ·exact e4 l (List.mem_of_mem_drop hl)
  have hfl:=VY e4 hq hle
  rw[ho]at hfl
  have hden:aS E ρ (els.flatten.take o++cn x++els.flatten.drop (o+(cn x).length))=some (xs.take o++y.cells.toList++xs.drop (o+(cn x).length)):=
   eD (eD (tS _ e3) hcx) (pm _ e3)
  refine⟨hlen',e5,gV arr o y.cells.toList,xs.take o++y.cells.toList++xs.drop (o+(cn x).length),rfl,?_,?_⟩
  ·rw[←hden]
   exact congrArg (aS E ρ) hfl
  ·have hcount:(els.take (Nat.div o sz)++[el.take (Nat.mod o sz)++cn x++el.drop (Nat.mod o sz+(cn x).length)]++els.drop (Nat.div o sz+1)).length=els.length:=by
    simp only[apv,apL,apW,List.length_singleton,apw,List.length_nil]at hle2 ⊢
    omega
   cases g with
   |false=>
    simp only[cond_false]
    rw[hsp,e8 rfl,hcl]
   |true=>
    obtain⟨q1,q2,q3⟩:=e9 rfl
    simp only[cond_true]
    refine⟨by rw[rX];exact q1,?_,(show _≤_ from by rw[←hcount]at q2;exact q2),q3⟩
    refine Eq.trans (congrArg (fun n=>(gV arr o y.cells.toList).toList.take (n*sz)) hcount) ?_
    show(gV arr o y.cells.toList).toList.take (els.length*sz)=_
    rw[←fe e4,←hxl,hsp,hcl]
    rw[←hcl]
    exact HQ e7 (by rw[hcl];exact hsz) (by rw[Array.length_toList];exact e6)
 ·have hsz2:y.cells.size=n:=by rw[←Array.length_toList,hcl,hn']
  simp[Instr.storeAt,Instr.sureAddr,storeVar,Go.Eng.run_sizeOf hs,hsz2,hr]
theorem am9 (hE:fV E) (h:Sim E ρ G F M nx w) {n:Nat} {v x:AV} {K:T→Bool} {p y:Value} (hv:den E ρ v=some p) (hx:den E ρ x=some y) (hk:stX n v x M K=true) {t:TypeId} (hs:cA P t=some n):
  ∃M' w',Sim E ρ G F M' nx w'∧K M'=true∧(Instr.storeAt t p y).run P w= .ok () w':=
 let ⟨M',w',h1,h2,h3,_⟩:=Yy hE h hv hx hk hs
 ⟨M',w',h1,h2,h3⟩
end
section
variable {P:Program} {E:Env} {ρ:Ren} {G:GS} {F:List bh} {M:T} {nx:Nat} {w:World}
noncomputable def abo (g:Bool) (Ty sz:Nat) (els:List (List AV)) (M:T) (nx:Nat) (K:T→Nat→Bool):Bool:=T.set bM M nx (some (.blk g Ty sz els)) fun M'=>fN (Nat.succ nx) fun n=>K M' n
theorem Od (h:Sim E ρ G F M nx w) {Ty sz:Nat} {els:List (List AV)} {K:T→Nat→Bool} {xs:List Value} (hk:abo false Ty sz els M nx K=true) (hlen:∀l∈els,l.length=sz) (hsz:0<sz) (hd:aS E ρ els.flatten=some xs):
  ∃M' ρ',ρ.Le ρ'∧ρ' nx=some ⟨w.heap.size,0⟩∧Sim E ρ' G F M' (nx+1) (w.alloc (.cells xs.toArray Ty))∧K M' (nx+1)=true:=by
 obtain⟨M',k1,k2,k3⟩:=T.set_ok _ _ _ _ _ hk
 rw[bY]at k1
 have hn:=h.fresh nx (apM _)
 exact⟨M',ρ.set nx ⟨w.heap.size,0⟩,Ren.le_set _ hn,Ren.set_self _ _ _,h.alloc (o:=.blk false Ty sz els) hn (Nat.le_succ _) (Nat.lt_succ_self _) ⟨hlen,hsz,xs.toArray,xs,rfl,hd,by simp⟩ k2 k3,k1⟩
noncomputable def abB (Ty:Nat) (cs:List AV) (M:T) (nx:Nat) (K:AV→T→Nat→Bool):Bool:=abo false Ty (db cs) [cs] M nx fun M' n=>K (.ptr nx 0) M' n
theorem YP (h:Sim E ρ G F M nx w) {Ty:Nat} {cs:List AV} {K:AV→T→Nat→Bool} {xs:List Value} (hk:abB Ty cs M nx K=true) (hd:aS E ρ cs=some xs) (h0:cs≠[]):
  ∃M' ρ',ρ.Le ρ'∧Sim E ρ' G F M' (nx+1) (w.alloc (.cells xs.toArray Ty))∧K (.ptr nx 0) M' (nx+1)=true∧den E ρ' (.ptr nx 0)=some (.pointer (some ⟨w.heap.size,0,none⟩)):=by
 obtain⟨M',ρ',h1,h2,h3,h4⟩:=Od h (xs:=xs) hk (fun l hl=>by simp only[List.mem_singleton]at hl;subst hl;exact(cw _).symm) (by rw[cw];exact List.length_pos_iff.2 h0) (by simpa using hd)
 exact⟨M',ρ',h1,h3,h4,by simp[den,h2]⟩
theorem ag3 (h:Sim E ρ G F M nx w) {Ty:Nat} {cs:List AV} {K:AV→T→Nat→Bool} {zs:Array Value} (hz:rW P Ty=some zs) (hd:aS E ρ cs=some zs.toList) (h0:cs≠[]) (hk:abB Ty cs M nx K=true):
  ∃v M' nx' ρ' w' z,ρ.Le ρ'∧Sim E ρ' G F M' nx' w'∧K v M' nx'=true∧den E ρ' v=some z∧(Instr.alloc Ty true (.tuple #[])).run P w= .ok z w':=by
 obtain⟨M',ρ',h1,h2,h3,h4⟩:=YP h hk hd h0
 refine⟨_,M',_,ρ',_,_,h1,h2,h3,h4,?_⟩
 obtain⟨z,hz1,hz2⟩:=KK hz w
 subst hz2
 simp[Instr.alloc,hz1,newVar,newRow,newObj,Sem.run]
noncomputable def aoB (Ty:Nat) (v:AV) (M:T) (nx:Nat) (K:AV→T→Nat→Bool):Bool:=aa (Nat.blt 0 (db (cn v))) (abB Ty (cn v) M nx K)
theorem aks (hE:fV E) (h:Sim E ρ G F M nx w) {Ty:Nat} {v:AV} {K:AV→T→Nat→Bool} {x:Value} (hx:den E ρ v=some x) (hk:aoB Ty v M nx K=true):
  ∃v M' nx' ρ' w' z,ρ.Le ρ'∧Sim E ρ' G F M' nx' w'∧K v M' nx'=true∧den E ρ' v=some z∧(Instr.box Ty x).run P w= .ok z w':=by
 obtain⟨k0,k1⟩:=aj hk
 rw[apV,cw]at k0
 obtain⟨M',ρ',h1,h2,h3,h4⟩:=YP h k1 (qW hE hx) (fun e=>by rw[e]at k0;simp at k0)
 exact⟨_,M',_,ρ',_,_,h1,h2,h3,h4,by simp[Instr.box,newVar,newRow,newObj,Sem.run]⟩
theorem Wk:∀(l:List Value) (cs:Array Value) (off k:Nat),off+k+l.length≤cs.size→((l.zipIdx k).foldl (fun cs p=>cs.setIfInBounds (off+p.2) p.1) cs)=gV cs (off+k) l
 |[],cs,off,k,_=>rfl
 |v::l,cs,off,k,h=>by
  simp only[apw]at h
  simp only[List.zipIdx_cons,List.foldl_cons,gV]
  rw[Wk l _ off (k+1) (by simp;omega),Nat.add_assoc]
noncomputable def TY (ps:List (Nat×AV)):List AV→(List AV→Bool)→Bool:=List.rec (fun cs K=>K cs) (fun p _ ih cs K=>nR cs p.1 (cn p.2) fun cs'=>ih cs' K) ps
theorem Lx (hE:fV E) {place:Nat→Option (Nat×Nat)}:∀{ps:List (Nat×AV)} {is:List Nat} {vs:List Value} {cs:List AV} {K:List AV→Bool} {zs:Array Value},TY ps cs K=true→aS E ρ cs=some zs.toList→
  aS E ρ (ps.map (·.2))=some vs→ps.length=is.length→(∀(k:Nat) (p:Nat×AV) (i:Nat) (y:Value),ps[k]?=some p→is[k]?=some i→vs[k]?=some y→place i=some (p.1,y.cells.size))→
  ∃cs' zs',K cs'=true∧aS E ρ cs'=some zs'.toList∧Instr.fill place zs (is.zip vs)=some zs'∧zs'.size=zs.size
 |[],is,vs,cs,K,zs,h,hd,hv,hl,_=>by
  have:is=[]:=by cases is<;>simp at hl ⊢
  subst this
  exact⟨cs,zs,h,hd,by simp[Instr.fill],rfl⟩
 |(off,v)::ps,is,vs,cs,K,zs,h,hd,hv,hl,hp=>by
  obtain⟨i,is,rfl⟩:∃i is',is=i::is':=by
   cases is with
   |nil=>simp at hl
   |cons i is=>exact⟨i,is,rfl⟩
  have h':nR cs off (cn v) (fun cs'=>TY ps cs' K)=true:=h
  obtain⟨h1,h2⟩:=fJ h'
  obtain⟨y,ys,hy,hys,rfl⟩:=cE (v:=v) (r:=ps.map (·.2)) hv
  have hc:=qW hE hy
  have hcl:=cL hc
  have hdl:=cL hd
  have hpl:=hp 0 (off,v) i y rfl rfl rfl
  have hb:off+y.cells.size≤zs.size:=by
   rw[←Array.length_toList (xs:=y.cells),hcl,←Array.length_toList (xs:=zs),hdl];exact h2
  have hsp:=yp y.cells.toList zs off (by rw[Array.length_toList];exact hb)
  have hd2:aS E ρ (cs.take off++cn v++cs.drop (off+(cn v).length))=some (gV zs off y.cells.toList).toList:=by
   rw[hsp]
   refine eD (eD (tS _ hd) hc) ?_
   rw[hcl]
   exact pm _ hd
  obtain⟨cs',zs',g1,g2,g3,g4⟩:=Lx hE (place:=place) (ps:=ps) (is:=is) h1 hd2 hys (by simpa using hl) fun k p i y e1 e2 e3=>hp (k+1) p i y (by simpa using e1) (by simpa using e2) (by simpa using e3)
  refine⟨cs',zs',g1,g2,?_,by rw[g4,rX]⟩
  simp only[List.zip_cons_cons,Instr.fill,hpl]
  rw[if_neg (by simp;omega)]
  rw[←Array.foldl_toList,Array.toList_zipIdx]
  have:=Wk y.cells.toList zs off 0 (by rw[Array.length_toList];omega)
  rw[Nat.add_zero]at this
  simp only[this]
  exact g3
def uf (P:Program) (t:TypeId) (i:Nat):Option (Nat×Nat):=match P.underlying t with
 |some (.struct fs)=>match fs[i]? with
  |some f=>(cA P f.type).map fun n=>(f.offset,n)
  |none=>none
 |some (.array _ e)=>(cA P e).map fun n=>(i*n,n)
 |some (.slice e)=>(cA P e).map fun n=>(i*n,n)
 |_=>none
def Nf (P:Program) (t:TypeId):Bool:=match P.underlying t with
 |some (.struct fs)=>fs.toList.all fun f=>(cA P f.type).isSome
 |some (.array _ e)=>(cA P e).isSome
 |_=>false
theorem abl {fs:List Field} (h:∀f∈fs,(cA P f.type).isSome=true) (w:World):∃l:List (Nat×Nat),(fs.mapM (fun f=>(do pure (f.offset,←sizeOf f.type):Sem (Nat×Nat)))).run P w= .ok l w∧l.length=fs.length∧∀(i:Nat) (f:Field) (n:Nat),fs[i]?=some f→cA P f.type=some n→l[i]?=some (f.offset,n):=by
 induction fs with
 |nil=>exact⟨[],by simp[List.mapM_nil],rfl,fun i f n h=>by simp at h⟩
 |cons f fs ih=>
  obtain⟨l,h1,h2,h3⟩:=ih fun g hg=>h g (by simp[hg])
  obtain⟨n,hn⟩:=Option.isSome_iff_exists.1 (h f (by simp))
  refine⟨(f.offset,n)::l,?_,by simp[h2],fun i g m hi hm=> ?_⟩
  ·simp only[List.mapM_cons,apH,Go.Eng.run_sizeOf hn,apG,h1,Sem.run_pure]
  ·cases i with
   |zero=>
    simp at hi;subst hi
    rw[hn]at hm;cases hm
    rfl
   |succ i=>simpa using h3 i g m (by simpa using hi) hm
theorem ac8 {t:TypeId} {zs zs':Array Value} (hz:rW P t=some zs) (hf:Nf P t=true) {is:List Nat} {vs:List Value} (hl:is.length=vs.length) (hfill:Instr.fill (uf P t) zs (is.zip vs)=some zs') (hin:∀i∈is,uf P t i≠none) (w:World):
  (Instr.build t (is.zip vs).toArray).run P w= .ok (.agg zs') w:=by
 obtain⟨z,hz1,rfl⟩:=KK hz w
 unfold Nf at hf
 have hcong:∀(place place':Nat→Option (Nat×Nat)) (l:List (Nat×Value)) (zs:Array Value),(∀p∈l,place p.1=place' p.1)→Instr.fill place zs l=Instr.fill place' zs l:=by
  intro place place' l
  induction l with
  |nil=>intro zs _;rfl
  |cons p l ih=>
   intro zs h
   obtain⟨i,v⟩:=p
   simp only[Instr.fill,h (i,v) (by simp)]
   split
   ·rfl
   ·split
    ·rfl
    ·exact ih _ fun q hq=>h q (by simp[hq])
 have hmem:∀p∈is.zip vs,p.1∈is:=fun p hp=>(List.of_mem_zip hp).1
 split at hf
 ·rename_i fs hu
  obtain⟨l,h1,h2,h3⟩:=abl (P:=P) (fs:=fs.toList) (fun f hf'=>by have:=List.all_eq_true.1 hf f hf';simpa using this) w
  have hm:(fs.mapM (fun f=>(do pure (f.offset,←sizeOf f.type):Sem (Nat×Nat)))).run P w= .ok l.toArray w:=by
   rw[Array.mapM_eq_mapM_toList]
   show Sem.run P (List.mapM _ fs.toList >>= fun a=>pure a.toArray) w=_
   rw[apH,h1]
   rfl
  simp only[Instr.build,apH,hz1,apG,run_underlying hu,hm]
  rw[hcong _ (uf P t) _ _ (fun p hp=> ?_),hfill]
  ·rfl
  ·have hne:=hin p.1 (hmem p hp)
   unfold uf at hne ⊢
   rw[hu]at hne ⊢
   simp only at hne ⊢
   rcases hf':fs[p.1]? with _|f
   ·simp[hf']at hne
   ·simp only[hf']at hne ⊢
    rcases hs:cA P f.type with _|n
    ·simp[hs]at hne
    ·simpa using h3 p.1 f n (by simpa using hf') hs
 ·rename_i n e hu
  obtain⟨m,hm⟩:=Option.isSome_iff_exists.1 hf
  have hp:∀i,uf P t i=some (i*m,m):=fun i=>by simp[uf,hu,hm]
  simp only[Instr.build,apH,hz1,apG,run_underlying hu,Go.Eng.run_sizeOf hm]
  rw[hcong _ (uf P t) _ _ (fun p _=>(hp p.1).symm),hfill]
  rfl
 ·cases hf
noncomputable def aoD (z:List AV) (ps:List (Nat×AV)) (K:AV→Bool):Bool:=TY ps z fun cs=>K (.agg cs)
def Gz (P:Program) (t:TypeId) (is:List Nat) (ps:List (Nat×Nat)):Bool:=decide (is.map (uf P t)=ps.map some)
theorem akt (hE:fV E) {t:TypeId} {z:List AV} {zs:Array Value} (hz:rW P t=some zs) (hzd:aS E ρ z=some zs.toList) (hf:Nf P t=true) {is:List Nat} {ps:List (Nat×Nat)} (hp:Gz P t is ps=true) {vs:List AV} {ys:List Value} {K:AV→Bool}
  (hv:aS E ρ vs=some ys) (hlen:vs.length=is.length) (hsz:∀(k:Nat) (p:Nat×Nat) (y:Value),ps[k]?=some p→ys[k]?=some y→y.cells.size=p.2) (hk:aoD z ((ps.map (·.1)).zip vs) K=true):
  ∃u x,den E ρ u=some x∧K u=true∧∀w,(Instr.build t (is.zip ys).toArray).run P w= .ok x w:=by
 have hp:is.map (uf P t)=ps.map some:=of_decide_eq_true hp
 have hpl:ps.length=is.length:=by have:=congrArg List.length hp;simpa using this.symm
 have hyl:=cL hv
 have h2:((ps.map (·.1)).zip vs).map (·.2)=vs:=by
  rw[List.map_snd_zip];simp;omega
 obtain⟨cs',zs',g1,g2,g3,g4⟩:=Lx hE (place:=uf P t) (is:=is) (vs:=ys) hk hzd (by rw[h2];exact hv) (by simp;omega) fun k p i y e1 e2 e3=>by
  have h3:(is.map (uf P t))[k]?=(ps.map some)[k]?:=by rw[hp]
  rw[apR,apR,e2]at h3
  obtain⟨q,hq,hq2⟩:∃q,ps[k]?=some q∧p.1=q.1:=by
   rw[List.getElem?_zip_eq_some]at e1
   rw[apR]at e1
   obtain⟨e4,_⟩:=e1
   rcases hq:ps[k]? with _|q
   ·rw[hq]at e4;simp at e4
   ·rw[hq]at e4;simp at e4;exact⟨q,rfl,e4.symm⟩
  rw[hq]at h3
  simp at h3
  rw[h3,hq2,hsz k q y hq e3]
 refine⟨_,.agg zs',by simp[den,g2],g1,fun w=>ac8 hz hf (by omega) g3 (fun i hi=> ?_) w⟩
 obtain⟨k,hk'⟩:=List.mem_iff_getElem?.1 hi
 have h3:(is.map (uf P t))[k]?=(ps.map some)[k]?:=by rw[hp]
 rw[apR,apR,hk']at h3
 rcases hq:ps[k]? with _|q
 ·rw[hq]at h3;simp at h3
 ·rw[hq]at h3;simp at h3;rw[h3];simp
end
noncomputable def Wr (sz:Nat):Nat→List AV→(List (List AV)→Bool)→Bool:=Nat.rec (fun l K=>List.casesOn l (K []) (fun _ _=>false)) (fun _ ih l K=>DC l sz fun a=>ih (Bz l sz) fun r=>K (a::r))
theorem Sx {sz:Nat}:∀{n:Nat} {l:List AV} {K:List (List AV)→Bool},Wr sz n l K=true→∃els,K els=true∧els.flatten=l∧(∀e∈els,e.length=sz)∧els.length=n
 |0,l,K,h=>by
  cases l with
  |nil=>exact⟨[],h,rfl,by simp,rfl⟩
  |cons a l=>cases h
 |n+1,l,K,h=>by
  have h':DC l sz (fun a=>Wr sz n (Bz l sz) fun r=>K (a::r))=true:=h
  obtain⟨h1,h2⟩:=AI h'
  rw[xQ]at h1
  obtain⟨els,h3,h4,h5,h6⟩:=Sx h1
  refine⟨_,h3,?_,?_,by simp[h6]⟩
  ·rw[apB,h4,List.take_append_drop]
  ·intro e he
   rcases apF.1 he with rfl|he
   ·rw[apL];omega
   ·exact h5 e he
noncomputable def abn (z:List AV):Nat→(List (List AV)→Bool)→Bool:=Nat.rec (fun K=>K []) (fun _ ih K=>ih fun r=>K (z::r))
theorem YC (z:List AV):∀(n:Nat) (K:List (List AV)→Bool),abn z n K=K (List.replicate n z)
 |0,_=>rfl
 |n+1,K=>by
  have:abn z (n+1) K=abn z n (fun r=>K (z::r)):=rfl
  rw[this,YC z n];rfl
theorem agk {z:Array Value} {sz:Nat} (hz:z.size=sz) (h0:0<sz) (c:Nat):madeCells z (c*sz)=(List.replicate c z.toList).flatten.toArray:=by
 apply Array.ext'
 apply List.ext_getElem?
 intro i
 have hfl:(List.replicate c z.toList).flatten.length=c*sz:=by
  rw[fe (sz:=sz) (fun l hl=>by rw[List.eq_of_mem_replicate hl];simpa using hz)]
  simp
 rcases Nat.lt_or_ge i (c*sz) with hi|hi
 ·have hr:i % sz<sz:=Nat.mod_lt _ h0
  have hq:i / sz<c:=Nat.div_lt_of_lt_mul (by rw[Nat.mul_comm];exact hi)
  have h1:(List.replicate c z.toList)[i / sz]?=some z.toList:=by rw[List.getElem?_replicate];simp[hq]
  have h2:z.toList[i % sz]?=some (z[i % sz]'(by omega)):=by simp
  have h3:=EO (sz:=sz) (fun l hl=>by rw[List.eq_of_mem_replicate hl];simpa using hz) h1 h2
  rw[Nat.mul_comm,Nat.div_add_mod]at h3
  simp only[List.toList_toArray]
  rw[h3]
  simp[madeCells,hi,hz,hr]
 ·rw[List.getElem?_eq_none (by simp[madeCells];exact hi),List.getElem?_eq_none (by simp only[List.toList_toArray];omega)]
section
variable {P:Program} {E:Env} {ρ:Ren} {G:GS} {F:List bh} {M:T} {nx:Nat} {w:World}
noncomputable def aoA (Ty sz len:Nat) (z:List AV) (ps:List (Nat×AV)) (M:T) (nx:Nat) (K:AV→T→Nat→Bool):Bool:=
 aa (Nat.blt 0 sz) (TY ps z fun cs=>Wr sz len cs fun els=>abo false Ty sz els M nx fun M' n=>K (.sl nx 0 len (.ex len)) M' n)
def Gq (P:Program) (Ty sz len:Nat):Option (List Value):=match P.info? Ty with
 |some i=>match i.zero with
  |some z=>bif Nat.beq i.size sz&&Nat.ble (len*sz) 16777216&&Nat.beq z.cells.size sz then some ((List.range (len*sz)).map fun j=>z.cells[j % sz]!) else none
  |none=>none
 |none=>none
theorem akr (hE:fV E) (h:Sim E ρ G F M nx w) {t Ty sz len:Nat} (ht:P.underlying t=some (.slice Ty)) {z:List AV} {zs:List Value} (hz:Gq P Ty sz len=some zs) (hzd:aS E ρ z=some zs) {is:List Nat} {ps:List (Nat×Nat)}
  (hp:Gz P t is ps=true) {vs:List AV} {ys:List Value} {K:AV→T→Nat→Bool} (hv:aS E ρ vs=some ys) (hlen:vs.length=is.length) (hsz:∀(k:Nat) (p:Nat×Nat) (y:Value),ps[k]?=some p→ys[k]?=some y→y.cells.size=p.2)
  (hk:aoA Ty sz len z ((ps.map (·.1)).zip vs) M nx K=true):
  ∃v M' nx' ρ' w' x,ρ.Le ρ'∧Sim E ρ' G F M' nx' w'∧K v M' nx'=true∧den E ρ' v=some x∧(Instr.buildSlice t len (is.zip ys).toArray).run P w= .ok x w':=by
 obtain⟨hs0,hk⟩:=aj hk
 rw[apV]at hs0
 have hp:is.map (uf P t)=ps.map some:=of_decide_eq_true hp
 have hpl:ps.length=is.length:=by have:=congrArg List.length hp;simpa using this.symm
 have hyl:=cL hv
 have h2:((ps.map (·.1)).zip vs).map (·.2)=vs:=by
  rw[List.map_snd_zip];simp;omega
 unfold Gq at hz
 rcases hi:P.info? Ty with _|inf
 ·simp[hi]at hz
 rcases hi2:inf.zero with _|z0
 ·simp[hi,hi2]at hz
 simp only[hi,hi2]at hz
 cases hb:(Nat.beq inf.size sz&&Nat.ble (len*sz) 16777216&&Nat.beq z0.cells.size sz) with
 |false=>simp[hb]at hz
 |true=>
 simp only[hb,cond_true,apQ]at hz
 simp only[apP,Nat.beq_eq,Nat.ble_eq]at hb
 obtain⟨⟨q1,q2⟩,q3⟩:=hb
 have hszof:cA P Ty=some sz:=by simp[cA,hi,q1]
 have hplc:∀i,uf P t i=some (i*sz,sz):=fun i=>by simp[uf,ht,hszof]
 obtain⟨cs',zs',g1,g2,g3,g4⟩:=Lx hE (place:=fun i=>some (i*sz,sz)) (is:=is) (vs:=ys) (zs:=zs.toArray) hk (by simpa using hzd) (by rw[h2];exact hv) (by simp;omega) fun k p i y e1 e2 e3=>by
  have h3:(is.map (uf P t))[k]?=(ps.map some)[k]?:=by rw[hp]
  rw[apR,apR,e2]at h3
  obtain⟨q,hq,hq2⟩:∃q,ps[k]?=some q∧p.1=q.1:=by
   rw[List.getElem?_zip_eq_some,apR]at e1
   obtain⟨e4,_⟩:=e1
   rcases hq:ps[k]? with _|q
   ·rw[hq]at e4;simp at e4
   ·rw[hq]at e4;simp at e4;exact⟨q,rfl,e4.symm⟩
  rw[hq]at h3
  simp only[Option.map_some,apQ,hplc]at h3
  rw[h3,hq2,hsz k q y hq e3]
 obtain⟨els,k1,k2,k3,k4⟩:=Sx g1
 obtain⟨M',ρ',m1,m2,m3,m4⟩:=Od h k1 k3 hs0 (by rw[k2];exact g2)
 refine⟨_,M',_,ρ',_,_,m1,m3,m4,by simp[den,m2,df];rfl,?_⟩
 have e1:((Array.range (len*sz)).map (z0.cells[· % z0.cells.size]!))=zs.toArray:=by
  rw[←hz,q3]
  apply Array.ext'
  simp
 have hszr:=Go.Eng.run_sizeOf hszof
 have hzv:(zeroValue Ty:Sem Value).run P w= .ok z0 w:=by simp[zeroValue,typeInfo,hi,hi2]
 simp only[Instr.buildSlice,apH,run_underlying ht,apG,hszr,if_neg (show¬len*sz > 2 ^ 24 by omega)]
 by_cases h0:len*sz=0
 ·have hzs:zs=[]:=by rw[←hz,h0];rfl
  simp only[h0,if_true,Sem.run_pure,apG,Array.range_zero',Array.map_empty]
  rw[hzs]at g3
  simp[g3,newRow,newObj,Sem.run]
 ·simp only[h0,if_false,apH,hzv,apG,Sem.run_pure,e1,g3]
  simp[newRow,newObj,Sem.run]
noncomputable def anQ (Ty sz bytes:Nat) (z:List AV) (vl vc:AV) (M:T) (nx:Nat) (K:AV→T→Nat→Bool):Bool:=
 jF vl fun _ l=>jF vc fun _ c=>Int.casesOn l (fun l=>Int.casesOn c (fun c=>aa (Nat.ble l c) (aa (Nat.ble (Nat.mul bytes c) 1000000) (aa (Nat.ble c 1000000) (aa (Nat.blt 0 sz) (aa (Nat.beq (db z) sz) (abn z c fun els=>abo false Ty sz els M nx fun M' n=>K (.sl nx 0 l (.ex c)) M' n))))))
  (fun _=>false)) (fun _=>false)
theorem ajP (h:Sim E ρ G F M nx w) {t Ty sz bytes:Nat} (ht:P.underlying t=some (.slice Ty)) (he:kR P Ty sz bytes=true) {z:List AV} {zs:Array Value} (hz:rW P Ty=some zs) (hzd:aS E ρ z=some zs.toList) {vl vc:AV} {xl xc:Value} (hl:den E ρ vl=some xl) (hc:den E ρ vc=some xc)
  {K:AV→T→Nat→Bool} (hk:anQ Ty sz bytes z vl vc M nx K=true):∃v M' nx' ρ' w' x,ρ.Le ρ'∧Sim E ρ' G F M' nx' w'∧K v M' nx'=true∧den E ρ' v=some x∧(Instr.makeSlice t xl xc).run P w= .ok x w':=by
 obtain⟨k1,l,rfl,hk1⟩:=iF hk
 obtain⟨k2,c,rfl,hk2⟩:=iF hk1
 cases hl;cases hc
 cases l with
 |negSucc l=>cases hk2
 |ofNat l=>
 cases c with
 |negSucc c=>cases hk2
 |ofNat c=>
 obtain⟨a1,b1⟩:=aj (b:=Nat.ble l c) hk2
 obtain⟨a2,b2⟩:=aj b1
 obtain⟨a3,b3⟩:=aj b2
 obtain⟨a4,b4⟩:=aj b3
 obtain⟨a5,b5⟩:=aj b4
 rw[YC]at b5
 rw[Nat.ble_eq]at a1 a2 a3
 have a2:bytes*c≤1000000:=a2
 rw[apV]at a4
 have a5:z.length=sz:=by rw[←cw];exact apz a5
 obtain⟨inf,z0,i1,i2,i3,i4,i5,i6⟩:=kE he
 have hz0:zs=z0.cells:=by
  unfold rW at hz
  simp only[i1,Option.bind_some,i2,Option.map_some,apQ]at hz
  exact hz.symm
 have hrep:∀n,aS E ρ (List.replicate n z).flatten=some (List.replicate n zs.toList).flatten:=by
  intro n
  induction n with
  |zero=>rfl
  |succ n ih=>simp only[List.replicate_succ,apB];exact eD hzd ih
 obtain⟨M',ρ',m1,m2,m3,m4⟩:=Od h b5 (fun e he=>by rw[List.eq_of_mem_replicate he];exact a5) a4 (hrep c)
 have hcells:madeCells z0.cells (c*inf.size)=(List.replicate c zs.toList).flatten.toArray:=by
  subst hz0
  rw[i3]
  exact agk (by rw[i4]) i6 c
 refine⟨_,M',_,ρ',_,_,m1,m3,m4,by simp[den,m2,df];rfl,?_⟩
 have hr:=Go.run_make (P:=P) w t Ty inf z0 ht i1 i2 (cR k1) (cR k2) (Int.ofNat l) (Int.ofNat c) (by simp) (by simp;exact a1) (by
   rw[i5]
   have:((bytes*c:Nat):Int)≤1000000:=by omega
   rw[Int.natCast_mul]at this
   simp only[Int.ofNat_eq_natCast]
   omega) (by simp only[Int.ofNat_eq_natCast];omega)
 rw[hr]
 simp only[Int.ofNat_eq_natCast,Int.toNat_natCast,hcells]
end
section
variable {P:Program} {E:Env} {ρ:Ren} {G:GS} {F:List bh} {M:T} {nx:Nat} {w:World}
noncomputable def faX (off:Nat) (v:AV) (K:AV→Bool):Bool:=nz v fun i o=>fN (Nat.add o off) fun o=>K (.ptr i o)
theorem aoj {off:Nat} {v:AV} {K:AV→Bool} {x:Value} {t i:Nat} (h:EX P t i=some off) (hv:den E ρ v=some x) (hk:faX off v K=true):∃u z,den E ρ u=some z∧K u=true∧∀w,(Instr.fieldAt t x i).run P w= .ok z w:=by
 obtain⟨j,o,rfl,k1⟩:=ie hk
 rw[bY]at k1
 simp only[den]at hv
 split at hv
 ·rename_i e he
  cases hv
  refine⟨_,.pointer (some ⟨e.b,o+off,none⟩),by simp only[den,he];rfl,k1,fun w=> ?_⟩
  have h':=h
  unfold EX at h'
  rcases ht:P.underlying t with _|d
  ·simp[ht]at h'
  rw[ht]at h'
  cases d<;>simp at h'
  rename_i fs
  rcases hf:fs[i]? with _|f
  ·simp[hf]at h'
  simp[Instr.fieldAt,Instr.sureAddr,run_underlying ht,hf,AL ht hf h]
 ·cases hv
noncomputable def anH (v:AV) (K:AV→Bool):Bool:=AV.casesOn v false (fun k z=>K (.int k z)) (fun b=>K (.bool b)) (fun l=>K (.str l)) (fun i o=>K (.ptr i o)) (fun i o n c=>K (.sl i o n c)) (fun i=>K (.map i)) false false false false false (fun t v=>K (.iface t v)) (fun f c=>K (.fn f c)) (fun _=>false) (fun _=>false) (fun _=>false) (fun _=>false) (fun _=>false)
theorem ajE {v:AV} {K:AV→Bool} {x:Value} (hv:den E ρ v=some x) (hk:anH v K=true) {a:Act} {o:Operand} (ha:a.eval o=x) {dst:Option Tmp} {ty:TypeId} {pos:String} {af:Array Edge} {g:Option (Nat×Bool)}:
  K v=true∧∀w,(execOp a.eval ⟨dst,.nilCheck o,ty,pos,af,g⟩).run P w= .ok (.value x) w:=by
 cases v<;>first|(cases hk;done)|skip
 case int k z=>cases hv;exact⟨hk,fun w=>by simp[execOp,ha]⟩
 case bool b=>cases hv;exact⟨hk,fun w=>by simp[execOp,ha]⟩
 case str l=>cases hv;exact⟨hk,fun w=>by simp[execOp,ha]⟩
 all_goals
  refine⟨hk,fun w=> ?_⟩
  unfold den at hv
  split at hv<;>first|(cases hv;done)|skip
  cases hv
  simp[execOp,ha]
noncomputable def GY (v:AV) (K:Nat→Nat→Bool):Bool:=jF v fun k z=>Int.casesOn z (fun n=>K k n) (fun _=>false)
theorem yb {v:AV} {K:Nat→Nat→Bool} (h:GY v K=true):∃k n,v= .int k (.ofNat n)∧K k n=true:=by
 obtain⟨k,z,rfl,h1⟩:=iF h
 cases z with
 |ofNat n=>exact⟨k,n,rfl,h1⟩
 |negSucc n=>cases h1
noncomputable def aoa (n sz:Nat) (v iv:AV) (K:AV→Bool):Bool:=nz v fun i o=>GY iv fun _ z=>aa (Nat.blt z n) (fN (Nat.add o (Nat.mul z sz)) fun o=>K (.ptr i o))
theorem aj7 {n sz:Nat} {v iv:AV} {K:AV→Bool} {x y:Value} {t e:TypeId} (ht:P.underlying t=some (.array n e)) (hs:cA P e=some sz) (hv:den E ρ v=some x) (hi:den E ρ iv=some y) (hk:aoa n sz v iv K=true):
  ∃u z,den E ρ u=some z∧K u=true∧∀w,(Instr.indexAt t x y).run P w= .ok z w:=by
 obtain⟨j,o,rfl,k1⟩:=ie hk
 obtain⟨kd,z,rfl,k2⟩:=yb k1
 obtain⟨hz,k3⟩:=aj k2
 rw[bY]at k3
 rw[apV]at hz
 simp only[den]at hv
 split at hv
 ·rename_i f hf
  cases hv;cases hi
  refine⟨_,.pointer (some ⟨f.b,o+z*sz,none⟩),by simp only[den,hf];rfl,k3,fun w=> ?_⟩
  simp[Instr.indexAt,Instr.sureAddr,asIntOf,run_underlying ht,Go.Eng.run_sizeOf hs,hz,de]
 ·cases hv
noncomputable def an8 (sz:Nat) (v iv:AV) (K:AV→Bool):Bool:=ue v false fun i o n _=>GY iv fun _ z=>aa (Nat.blt z n) (fN (Nat.add o (Nat.mul z sz)) fun o=>K (.ptr i o))
theorem aj5 {sz:Nat} {v iv:AV} {K:AV→Bool} {x y:Value} {t e:TypeId} (ht:P.underlying t=some (.slice e)) (hs:cA P e=some sz) (hv:den E ρ v=some x) (hi:den E ρ iv=some y) (hk:an8 sz v iv K=true):
  ∃u z,den E ρ u=some z∧K u=true∧∀w,(Instr.indexAt t x y).run P w= .ok z w:=by
 rcases jE hk with⟨_,k1⟩|⟨j,o,n,c,rfl,k1⟩
 ·cases k1
 obtain⟨kd,z,rfl,k2⟩:=yb k1
 obtain⟨hz,k3⟩:=aj k2
 rw[bY]at k3
 rw[apV]at hz
 simp only[den]at hv
 split at hv
 ·rename_i f hf
  cases hv;cases hi
  refine⟨_,.pointer (some ⟨f.b,o+z*sz,none⟩),by simp only[den,hf];rfl,k3,fun w=> ?_⟩
  simp[Instr.indexAt,asIntOf,run_underlying ht,Go.Eng.run_sizeOf hs,hz,de]
 ·cases hv
noncomputable def aoh (agg:Bool) (off n:Nat) (v:AV) (K:AV→Bool):Bool:=asAgg v fun cs=>bn agg (DC (Bz cs off) n fun l=>K (.agg l)) (eu (fb cs off) K)
theorem Og {agg:Bool} {off n:Nat} {cs:List AV} {K:AV→Bool} {xs:List Value} (hd:aS E ρ cs=some xs) (hk:bn agg (DC (Bz cs off) n fun l=>K (.agg l)) (eu (fb cs off) K)=true) {t:TypeId} (hag:kC P t=some agg) (hs:cA P t=some n):
  ∃u z,den E ρ u=some z∧K u=true∧∀w,(part t xs.toArray off).run P w= .ok z w:=by
 rcases bi hk with⟨rfl,k1⟩|⟨rfl,k1⟩
 ·obtain⟨k2,hle⟩:=AI k1
  rw[xQ]at k2 hle
  have hd2:=tS n (pm off hd)
  refine⟨_,.agg ((xs.drop off).take n).toArray,by simp only[den,hd2],k2,fun w=> ?_⟩
  simp[part,Go.Eng.run_isAgg hag,Go.Eng.run_sizeOf hs]
 ·obtain⟨u,hu,k2⟩:=ci k1
  rw[iA]at hu
  obtain⟨z,h1,h2⟩:=rO hd hu
  refine⟨u,z,h1,k2,fun w=> ?_⟩
  simp[part,Go.Eng.run_isAgg hag,h2]
theorem akb {agg:Bool} {off n:Nat} {v:AV} {K:AV→Bool} {x:Value} {t i:TypeId} {fs:Array Field} {f:Field} (ht:P.underlying t=some (.struct fs)) (hf:fs[i]?=some f) (ho:f.offset=off) (hag:kC P f.type=some agg) (hs:cA P f.type=some n)
  (hv:den E ρ v=some x) (hk:aoh agg off n v K=true):∃u z,den E ρ u=some z∧K u=true∧∀w,(Instr.field t x i).run P w= .ok z w:=by
 obtain⟨cs,rfl,k1⟩:=fg hk
 simp only[den]at hv
 split at hv
 ·rename_i xs hd
  cases hv
  obtain⟨u,z,h1,h2,h3⟩:=Og hd k1 hag hs
  refine⟨u,z,h1,h2,fun w=> ?_⟩
  subst ho
  simp[Instr.field,run_underlying ht,hf,Go.asAgg,h3]
 ·cases hv
noncomputable def an6 (agg:Bool) (n sz:Nat) (v i:AV) (K:AV→Bool):Bool:=asAgg v fun cs=>GY i fun _ j=>aa (Nat.blt j n) (bn agg (DC (Bz cs (Nat.mul j sz)) sz fun l=>K (.agg l)) (eu (fb cs (Nat.mul j sz)) K))
theorem aj3 {agg:Bool} {n sz:Nat} {v i:AV} {K:AV→Bool} {x y:Value} {t e:TypeId} (ht:P.underlying t=some (.array n e)) (hag:kC P e=some agg) (hs:cA P e=some sz)
  (hv:den E ρ v=some x) (hi:den E ρ i=some y) (hk:an6 agg n sz v i K=true):∃u z,den E ρ u=some z∧K u=true∧∀w,(Instr.index t x y).run P w= .ok z w:=by
 obtain⟨cs,rfl,k1⟩:=fg hk
 obtain⟨k,j,rfl,k2⟩:=yb k1
 obtain⟨k3,k4⟩:=aj k2
 rw[apV]at k3
 simp only[den]at hv
 cases hi
 split at hv
 ·rename_i xs hd
  cases hv
  obtain⟨u,z,h1,h2,h3⟩:=Og hd k4 hag hs
  refine⟨u,z,h1,h2,fun w=> ?_⟩
  have hj:(j:Int)<(n:Int):=by omega
  have e:((j:Int)).toNat=j:=Int.toNat_natCast j
  have hm:Nat.mul j sz=j*sz:=rfl
  rw[hm]at h3
  simp[Instr.index,asIntOf,run_underlying ht,Go.Eng.run_sizeOf hs,k3,h3]
 ·cases hv
noncomputable def KW (d:Nat) (o:Option AV) (K:Nat→Bool):Bool:=Option.casesOn o (K d) fun v=>GY v fun _ n=>K n
theorem vq {d:Nat} {o:Option AV} {K:Nat→Bool} (h:KW d o K=true):∃n,K n=true∧((o=none∧n=d)∨∃k,o=some (.int k (.ofNat n))):=by
 cases o with
 |none=>exact⟨d,h,.inl ⟨rfl,rfl⟩⟩
 |some v=>
  obtain⟨k,n,rfl,h1⟩:=yb (v:=v) h
  exact⟨n,h1,.inr ⟨k,rfl⟩⟩
def xR (E:Env) (ρ:Ren) (o:Option AV) (x:Option Value):Prop:=(o=none∧x=none)∨∃v y,o=some v∧x=some y∧den E ρ v=some y
theorem kF {o:Option AV} {x:Option Value} {d n:Nat} (h:xR E ρ o x) (hn:(o=none∧n=d)∨∃k,o=some (.int k (.ofNat n))):(x=none∧n=d)∨∃k,x=some (.int k (.ofNat n)):=by
 rcases h with⟨rfl,rfl⟩|⟨v,y,rfl,rfl,hd⟩
 ·rcases hn with⟨_,rfl⟩|⟨k,hk⟩
  ·exact .inl ⟨rfl,rfl⟩
  ·cases hk
 ·rcases hn with⟨hh,_⟩|⟨k,hk⟩
  ·cases hh
  ·cases hk;cases hd;exact .inr ⟨_,rfl⟩
theorem dr {isS:Bool} {len cap:Nat} {lo hi mx:Option Value} {l h m:Nat} (hl:(lo=none∧l=0)∨∃k,lo=some (.int k (.ofNat l))) (hh:(hi=none∧h=len)∨∃k,hi=some (.int k (.ofNat h))) (hm:(mx=none∧m=cap)∨∃k,mx=some (.int k (.ofNat m)))
  (hmh:mx≠none→hi≠none) (h1:l≤h) (h2:h≤m) (h3:m≤cap) (w:World):(Instr.sliceBounds isS len cap lo hi mx).run P w= .ok (l,h,m) w:=by
 have sb:∀(k:IntKind) (n y:Nat) (c:BoundsCode),n≤y→(Instr.sliceBound (.int k (n:Int)) y c).run P w= .ok n w:=by
  intro k n y c hn
  simp[Instr.sliceBound,asIntOf,hn]
 rcases hm with⟨rfl,rfl⟩|⟨km,rfl⟩
 ·rcases hh with⟨rfl,rfl⟩|⟨kh,rfl⟩
  ·rcases hl with⟨rfl,rfl⟩|⟨kl,rfl⟩
   ·simp[Instr.sliceBounds]
   ·simp[Instr.sliceBounds,sb _ _ _ _ h1]
  ·rcases hl with⟨rfl,rfl⟩|⟨kl,rfl⟩
   ·simp[Instr.sliceBounds,sb _ _ _ _ h2]
   ·simp[Instr.sliceBounds,sb _ _ _ _ h2,sb _ _ _ _ h1]
 ·rcases hh with⟨rfl,rfl⟩|⟨kh,rfl⟩
  ·exact absurd rfl (hmh (by simp))
  ·rcases hl with⟨rfl,rfl⟩|⟨kl,rfl⟩
   ·simp[Instr.sliceBounds,sb _ _ _ _ h2,sb _ _ _ _ h3]
   ·simp[Instr.sliceBounds,sb _ _ _ _ h2,sb _ _ _ _ h3,sb _ _ _ _ h1]
noncomputable def jB {α:Type _} (o:Option α):Bool:=Option.casesOn o false fun _=>true
noncomputable def anh (sz:Nat) (v:AV) (lo hi mx:Option AV) (M:T) (K:AV→Bool):Bool:=
 ue v (KW 0 lo fun l=>KW 0 hi fun h=>KW 0 mx fun m=>aa (Nat.beq l 0) (aa (Nat.beq h 0) (aa (Nat.beq m 0) (aa (Bool.or (Bool.not (jB mx)) (jB hi)) (K .nilS)))))
  fun i o n c=>KW 0 lo fun l=>KW n hi fun h=>aa (Nat.ble l h) (Option.casesOn mx
   (ACap.casesOn c
    (fun cc=>aa (Nat.ble h cc) (bn (Nat.beq cc l) (fN (Nat.sub h l) fun hl=>fN (Nat.sub cc l) fun cl=>K (.sl i o hl (.ex cl))) (fN (Nat.sub h l) fun hl=>fN (Nat.sub cc l) fun cl=>fN (Nat.add o (Nat.mul l sz)) fun o'=>K (.sl i o' hl (.ex cl)))))
    (fun k=>aa (Nat.ble h n) (eH M i fun g _ _ els=>aa g (aa (Nat.ble (Nat.add k n) (db els)) (fN (Nat.sub h l) fun hl=>fN (Nat.add k l) fun kl=>fN (Nat.add o (Nat.mul l sz)) fun o'=>
     bn (Nat.blt l n) (K (.sl i o' hl (.rest kl))) (aa (K (.sl i o' hl (.rest kl))) (K (.sl i o hl (.ex 0)))))))))
   (fun _=>aa (jB hi) (KW 0 mx fun m=>aa (Nat.ble h m) (aa (ACap.casesOn c (fun cc=>Nat.ble m cc) (fun _=>false))
    (fN (Nat.sub h l) fun hl=>fN (Nat.sub m l) fun ml=>bn (Nat.beq m l) (K (.sl i o hl (.ex ml))) (fN (Nat.add o (Nat.mul l sz)) fun o'=>K (.sl i o' hl (.ex ml))))))))
theorem ajl (h:Sim E ρ G F M nx w) {sz:Nat} {v:AV} {lo hi mx:Option AV} {K:AV→Bool} {x:Value} {xl xh xm:Option Value} {t e:TypeId} (ht:P.underlying t=some (.slice e)) (hs:cA P e=some sz) (hv:den E ρ v=some x)
  (hlo:xR E ρ lo xl) (hhi:xR E ρ hi xh) (hmx:xR E ρ mx xm) (hk:anh sz v lo hi mx M K=true):∃u z,den E ρ u=some z∧K u=true∧(Instr.sliceAt t x xl xh xm).run P w= .ok z w:=by
 have hrun:∀(ao:Option Addr) (n c l hh m:Nat),(Instr.sliceBounds true n c xl xh xm).run P w= .ok (l,hh,m) w→(Instr.sliceAt t (.slice ao n c) xl xh xm).run P w= .ok (.slice (if m=l then ao else ao.map (·.add (l*sz))) (hh - l) (m - l)) w:=by
  intro ao n c l hh m hb
  simp[Instr.sliceAt,Instr.slice,run_underlying ht,hb,Go.Eng.run_sizeOf hs]
 have hmh:mx=none→xm=none:=fun q=>by
  rcases hmx with⟨_,h2⟩|⟨_,_,h2,_⟩
  ·exact h2
  ·rw[q]at h2;cases h2
 rcases jE hk with⟨rfl,k1⟩|⟨i,o,n,c,rfl,k1⟩
 ·obtain⟨l,k2,hl⟩:=vq k1
  obtain⟨hh,k3,hh2⟩:=vq k2
  obtain⟨m,k4,hm⟩:=vq k3
  obtain⟨e1,k5⟩:=aj k4
  obtain⟨e2,k6⟩:=aj k5
  obtain⟨e3,k7⟩:=aj k6
  obtain⟨e4,k7⟩:=aj k7
  have e1:=apz e1
  have e2:=apz e2
  have e3:=apz e3
  subst e1;subst e2;subst e3
  cases hv
  refine⟨.nilS,.slice none 0 0,rfl,k7,?_⟩
  by_cases hx:xm≠none∧xh=none
  ·exfalso
   rcases hmx with⟨_,q⟩|⟨v',y,q1,q2,_⟩
   ·exact hx.1 q
   ·rcases hhi with⟨p1,_⟩|⟨v'',y',p1,p2,_⟩
    ·subst q1;subst p1;cases e4
    ·rw[p2]at hx;cases hx.2
  ·rw[hrun none 0 0 0 0 0 (dr (kF hlo hl) (kF hhi hh2) (kF hmx hm) (fun q q2=>hx ⟨q,q2⟩) (apM _) (apM _) (apM _) w)]
   simp
 ·obtain⟨l,k2,hl⟩:=vq k1
  obtain⟨hh,k3,hh2⟩:=vq k2
  obtain⟨hle,k4⟩:=aj k3
  rw[Nat.ble_eq]at hle
  simp only[den]at hv
  split at hv
  case h_2=>cases hv
  rename_i f hf
  cases hv
  cases mx with
  |none=>
   have hxm:=hmh rfl
   subst hxm
   cases c with
   |ex cc=>
    obtain⟨hc,k5⟩:=aj k4
    rw[Nat.ble_eq]at hc
    have hb:=dr (P:=P) (isS:=true) (len:=n) (kF hlo hl) (kF hhi hh2) (.inl ⟨rfl,rfl⟩) (fun q=>absurd rfl q) hle hc (apM cc) w
    have hr:=hrun (some ⟨f.b,o,none⟩) n cc l hh cc hb
    rcases bi k5 with⟨q,k6⟩|⟨q,k6⟩
    ·have q:=apz q
     subst q
     rw[bY,bY]at k6
     exact⟨_,.slice (some ⟨f.b,o,none⟩) (hh - cc) (cc - cc),by simp only[den,hf,df];rfl,k6,by simpa[df] using hr⟩
    ·rw[abC,decide_eq_false_iff_not]at q
     rw[bY,bY,bY]at k6
     exact⟨_,.slice (some ⟨f.b,o+l*sz,none⟩) (hh - l) (cc - l),by simp only[den,hf,df];rfl,k6,by simpa[df,q,de] using hr⟩
   |rest k=>
    obtain⟨hn,k5⟩:=aj k4
    rw[Nat.ble_eq]at hn
    obtain⟨g,Ty,sz',els,hi',k6⟩:=cM k5
    obtain⟨hg,k7⟩:=aj k6
    subst hg
    obtain⟨hkn,k8⟩:=aj k7
    rw[Nat.ble_eq,cw]at hkn
    have hkn:k+n≤els.length:=hkn
    obtain⟨f2,arr,xs,q1,_,_,_,_,_,_,_,q9⟩:=h.cellsAt hi'
    rw[hf]at q1;cases q1
    obtain⟨_,q10,_⟩:=q9 rfl
    have hcap:n≤f.cap - k:=by omega
    have hb:=dr (P:=P) (isS:=true) (len:=n) (cap:=f.cap - k) (kF hlo hl) (kF hhi hh2) (.inl ⟨rfl,rfl⟩) (fun q=>absurd rfl q) hle (by omega) (apM _) w
    have hr:=hrun (some ⟨f.b,o,none⟩) n (f.cap - k) l hh (f.cap - k) hb
    rw[bY,bY,bY]at k8
    rcases bi k8 with⟨q,k9⟩|⟨q,k9⟩
    ·rw[apV]at q
     exact⟨_,.slice (some ⟨f.b,o+l*sz,none⟩) (hh - l) (f.cap - (k+l)),by simp only[den,hf,df];rfl,k9,by
      have:¬f.cap - k=l:=by omega
      simpa[df,this,de,Nat.sub_sub] using hr⟩
    ·obtain⟨k10,k11⟩:=aj k9
     by_cases q2:f.cap - k=l
     ·exact⟨_,.slice (some ⟨f.b,o,none⟩) (hh - l) 0,by simp only[den,hf,df];rfl,k11,by simpa[df,q2] using hr⟩
     ·exact⟨_,.slice (some ⟨f.b,o+l*sz,none⟩) (hh - l) (f.cap - (k+l)),by simp only[den,hf,df];rfl,k10,by
       simpa[df,q2,de,Nat.sub_sub] using hr⟩
  |some mv=>
   obtain⟨hih,k5⟩:=aj (b:=jB hi) k4
   obtain⟨m,k6,hm⟩:=vq k5
   obtain⟨hhm,k7⟩:=aj k6
   obtain⟨hmc,k8⟩:=aj k7
   rw[Nat.ble_eq]at hhm
   cases c with
   |rest k=>cases hmc
   |ex cc=>
   have hmc:m≤cc:=by
    have:Nat.ble m cc=true:=hmc
    rwa[Nat.ble_eq]at this
   have hxh:xh≠none:=by
    rcases hhi with⟨q,_⟩|⟨_,_,_,q,_⟩
    ·rw[q]at hih;cases hih
    ·rw[q];simp
   have hmd:(xm=none∧m=cc)∨∃k,xm=some (.int k (.ofNat m)):=by
    rcases hmx with⟨q,_⟩|⟨v',y,q1,q2,q3⟩
    ·cases q
    ·rcases hm with⟨q,_⟩|⟨k,q⟩
     ·cases q
     ·cases q1;cases q;cases q3
      exact .inr ⟨_,q2⟩
   have hb:=dr (P:=P) (isS:=true) (len:=n) (cap:=cc) (kF hlo hl) (kF hhi hh2) hmd (fun _=>hxh) hle hhm hmc w
   have hr:=hrun (some ⟨f.b,o,none⟩) n cc l hh m hb
   rw[bY,bY]at k8
   rcases bi k8 with⟨q,k9⟩|⟨q,k9⟩
   ·have q:=apz q
    subst q
    exact⟨_,.slice (some ⟨f.b,o,none⟩) (hh - m) (m - m),by simp only[den,hf,df];rfl,k9,by simpa[df] using hr⟩
   ·rw[abC,decide_eq_false_iff_not]at q
    rw[bY]at k9
    exact⟨_,.slice (some ⟨f.b,o+l*sz,none⟩) (hh - l) (m - l),by simp only[den,hf,df];rfl,k9,by simpa[df,q,de] using hr⟩
end
section
variable {P:Program} {E:Env} {ρ:Ren} {G:GS} {F:List bh} {M:T} {nx:Nat} {w:World}
noncomputable def acb (sz:Nat) (v:AV) (M:T) (K:List (List AV)→Bool):Bool:=
 ue v (K []) fun i o n _=>Nat.casesOn n (K []) fun _=>eH M i fun _ _ sz' els=>aa (Nat.beq sz sz') (aa (Nat.beq (Nat.mod o sz) 0) (DC (Bz els (Nat.div o sz)) n K))
theorem OI (h:Sim E ρ G F M nx w) {sz:Nat} {v:AV} {K:List (List AV)→Bool} {x:Value} (hv:den E ρ v=some x) (hk:acb sz v M K=true):
  ∃els xs ao n c,K els=true∧aS E ρ els.flatten=some xs∧x= .slice ao n c∧els.length=n∧(∀l∈els,l.length=sz)∧xs.length=n*sz∧(0<n→∃b o,ao=some ⟨b,o,none⟩∧∀j u,xs[j]?=some u→w.cell? ⟨b,o+j,none⟩=some u):=by
 rcases jE hk with⟨rfl,k1⟩|⟨i,o,n,c,rfl,k1⟩
 ·cases hv
  exact⟨[],[],none,0,0,k1,rfl,rfl,rfl,by simp,by simp,fun q=>by omega⟩
 ·simp only[den]at hv
  split at hv
  case h_2=>cases hv
  rename_i e he
  cases hv
  cases n with
  |zero=>exact⟨[],[],_,0,_,k1,rfl,rfl,rfl,by simp,by simp,fun q=>by omega⟩
  |succ n=>
   obtain⟨g,Ty,sz',els,hi,k2⟩:=cM k1
   obtain⟨q1,k3⟩:=aj k2
   obtain⟨q2,k4⟩:=aj k3
   have q1:=apz q1
   have q2:=apz q2
   subst q1
   obtain⟨k5,hle⟩:=AI k4
   rw[xQ]at k5 hle
   obtain⟨e',arr,xs,e1,e2,e3,e4,e5,e6,e7,_⟩:=h.cellsAt hi
   rw[he]at e1;cases e1
   have ho:o / sz*sz=o:=by
    have:=Nat.div_add_mod o sz
    have q2:o % sz=0:=q2
    rw[q2,Nat.add_zero,Nat.mul_comm]at this
    exact this
   have hall:∀l∈(els.drop (o / sz)).take (n+1),l.length=sz:=fun l hl=>e4 l (List.mem_of_mem_drop (List.mem_of_mem_take hl))
   have hsplit:els.flatten=(els.take (o / sz)).flatten++((els.drop (o / sz)).take (n+1)).flatten++((els.drop (o / sz)).drop (n+1)).flatten:=by
    rw[←List.flatten_append,←List.flatten_append,List.append_assoc,List.take_append_drop,List.take_append_drop]
   have hle:n+1≤(els.drop (o / sz)).length:=hle
   have hpre:(els.take (o / sz)).flatten.length=o:=by
    rw[fe (sz:=sz) (fun l hl=>e4 l (List.mem_of_mem_take hl)),apL,Nat.min_eq_left (by rw[apW]at hle;omega),ho]
   rw[hsplit]at e3
   obtain⟨ab,c3,d1,d2,d3⟩:=ff e3
   obtain⟨c1,c2,d4,d5,d6⟩:=ff d1
   have hc1:=cL d4
   have hc2:=cL d5
   refine⟨_,c2,_,n+1,_,k5,d5,rfl,by rw[apL];exact Nat.min_eq_left hle,hall,?_,fun _=>⟨e.b,o,rfl,fun j u hu=> ?_⟩⟩
   ·rw[hc2,fe hall,apL,Nat.min_eq_left hle]
   ·have hx:xs[o+j]?=some u:=by
     rw[d3,d6,List.append_assoc,List.getElem?_append_right (by omega),show o+j - c1.length=j by omega,List.getElem?_append_left (List.getElem?_eq_some_iff.1 hu).1]
     exact hu
    have hlt:=(List.getElem?_eq_some_iff.1 hx).1
    rw[←e7,apO hlt]at hx
    simp only[World.cell?,e2]
    simpa using hx
theorem eF (t ty e:TypeId) (ht:P.underlying t=some (.slice e)) {sz:Nat} (hs:cA P e=some sz) (base:Option Addr) (n cap:Nat) (hle:n≤cap) (ao:Option Addr) (c:Nat):
  (Builtin.append_ #[t,t] ty #[.slice base n cap,.slice ao 0 c]).run P w= .ok (.slice base n cap) w:=by
 have h1:(Builtin.firstCells sz 0 (.slice ao 0 c)).run P w= .ok #[] w:=by cases ao<;>simp[Builtin.firstCells,loadCells,loadCellsFrom]
 cases base<;>simp[Builtin.append_,run_underlying ht,Go.Eng.run_sizeOf hs,Builtin.lenOf,hle,h1,storeCells]
noncomputable def lim (bytes a:Nat):Bool:=Bool.and (Nat.ble a 100000000) (Nat.ble (Nat.mul a bytes) 100000000)
theorem adC {bytes a:Nat} (h:lim bytes a=true):a≤100000000∧a*bytes≤100000000:=by
 have h':(Nat.ble a 100000000&&Nat.ble (Nat.mul a bytes) 100000000)=true:=h
 rw[apP,Nat.ble_eq,Nat.ble_eq]at h'
 exact h'
noncomputable def aoK (Ty sz bytes:Nat) (v1 v2:AV) (M:T) (nx:Nat) (K:AV→T→Nat→Bool):Bool:=
 acb sz v2 M fun news=>aa (Nt news.flatten) (
  ue v1
   (List.casesOn news (K .nilS M nx) fun _ _=>aa (lim bytes (db news)) (T.set bM M nx (some (.blk true Ty sz news)) fun M'=>fN (Nat.succ nx) fun n=>fN (db news) fun m=>K (.sl nx 0 m (.rest 0)) M' n))
   fun i o n c=>List.casesOn news
    (ACap.casesOn c (fun cc=>aa (Nat.ble n cc) (K v1 M nx)) (fun k=>eH M i fun g _ _ els=>aa g (aa (Nat.ble (Nat.add k n) (db els)) (K v1 M nx))))
    fun _ _=>aa (lim bytes (Nat.add n (db news))) (ACap.casesOn c
     (fun cc=>bn (Nat.ble (Nat.add n (db news)) cc)
      (aa (Nat.beq o 0) (eH M i fun g Ty' sz' els=>aa (Bool.not g) (aa (Nat.beq Ty' Ty) (aa (Nat.beq sz' sz) (nR els n news fun els'=>T.set bM M i (some (.blk false Ty sz els')) fun M'=>fN (Nat.add n (db news)) fun m=>K (.sl i 0 m (.ex cc)) M' nx)))))
      (acb sz v1 M fun olds=>app olds news fun els=>T.set bM M nx (some (.blk true Ty sz els)) fun M'=>fN (Nat.succ nx) fun q=>fN (Nat.add n (db news)) fun m=>K (.sl nx 0 m (.rest 0)) M' q))
     (fun k=>aa (Nat.beq k 0) (aa (Nat.beq o 0) (eH M i fun g Ty' sz' els=>aa g (aa (Nat.beq (db els) n) (aa (Nat.beq Ty' Ty) (aa (Nat.beq sz' sz)
      (app els news fun els'=>T.set bM M i none fun M1=>T.set bM M1 nx (some (.blk true Ty sz els')) fun M'=>fN (Nat.succ nx) fun q=>fN (Nat.add n (db news)) fun m=>K (.sl nx 0 m (.rest 0)) M' q)))))))))
theorem Oh {e size n:Nat} {xs:List Value} {v:Value} {base:Nat} {w':World} (h:w'.ownsRow base e size v n xs) (h0:0<n):∃g cap cur,v= .slice (some ⟨g,0,none⟩) n cap∧base≤g∧w'.heap[g]?=some (.cells cur e (0,0))∧n≤cap∧cap≤maxLen∧cur.size=cap*size∧cur.toList.take (n*size)=xs∧xs.length=n*size:=by
 obtain⟨hl,h1⟩:=h
 rcases h1 with⟨_,hz⟩|⟨g,cap,cur,rfl,h0,h2,h3,h4,h5,h6⟩
 ·omega
 ·exact⟨g,cap,cur,rfl,h0,h2,h3,h4,h5,h6,hl⟩
theorem akx (hE:fV E) (h:Sim E ρ G F M nx w) {t ty Ty sz bytes:Nat} (ht:P.underlying t=some (.slice Ty)) (he:kR P Ty sz bytes=true) {v1 v2:AV} {K:AV→T→Nat→Bool} {x1 x2:Value} (h1:den E ρ v1=some x1) (h2:den E ρ v2=some x2)
  (hk:aoK Ty sz bytes v1 v2 M nx K=true):∃v M' nx' ρ' w' x,ρ.Le ρ'∧Sim E ρ' G F M' nx' w'∧K v M' nx'=true∧den E ρ' v=some x∧(Builtin.append_ #[t,t] ty #[x1,x2]).run P w= .ok x w':=by
 obtain⟨news,ns,ao,m,c2,k0,n1,rfl,n2,n3,n4,n5⟩:=OI h h2 hk
 obtain⟨kone,k1⟩:=aj k0
 have hone:=CK hE kone n1
 have hone':∀u∈ns,Value.oneCell' u=true:=fun u hu=>List.all_eq_true.1 hone u hu
 obtain⟨inf,z,i1,i2,i3,i4,i5,i6⟩:=kE he
 have hs:cA P Ty=some sz:=by simp[cA,i1,i3]
 have hm63:maxLen=9223372036854775807:=rfl
 have h0:=h.fresh nx (apM _)
 -- a new row,in a new block or the old one
 have fin:∀{i:Nat} {old:Option Nat} {M':T} {els:List (List AV)} {v':Value} {w':World} {mm:Nat} {ys:List Value} {base:Nat},(∀b,old=some b→∃e o,M.get i=some o∧ρ i=some e∧e.b=b∧cU e o=true)→w.grownBy w' old→w'.ownsRow base Ty sz v' mm ys→0<mm→
   (v'.ownBlock=old∨v'.ownBlock=some w.heap.size∨w.heap.size≤base)→aS E ρ els.flatten=some ys→(∀l∈els,l.length=sz)→els.length=mm→M'.get nx=some (.blk true Ty sz els)→(∀m,m≠nx→m≠i→M'.get m=M.get m)→(i≠nx→M'.get i=none)→K (.sl nx 0 mm (.rest 0)) M' (nx+1)=true→
   (Builtin.append_ #[t,t] ty #[x1,.slice ao m c2]).run P w= .ok v' w'→∃v M' nx' ρ' w' x,ρ.Le ρ'∧Sim E ρ' G F M' nx' w'∧K v M' nx'=true∧den E ρ' v=some x∧(Builtin.append_ #[t,t] ty #[x1,.slice ao m c2]).run P w= .ok x w':=by
  intro i old M' els v' w' mm ys base g1 g2 g3 g4 g5 g6 g7 g8 g9 g10 g11 g12 g13
  obtain⟨g,cap,cur,rfl,r1,r2,r3,r4,r5,r6,r7⟩:=Oh g3 g4
  have hb':old=some g∨w.heap.size≤g:=by
   rcases g5 with e|e|e
   ·exact .inl (by rw[←e];rfl)
   ·simp[Value.ownBlock]at e;exact .inr (by omega)
   ·exact .inr (by omega)
  refine⟨_,M',nx+1,ρ.set nx ⟨g,cap⟩,w',_,Ren.le_set _ h0,h.regrow (i:=i) (o':=.blk true Ty sz els) h0 (Nat.le_succ _) (Nat.lt_succ_self _) g1 g2 r2 hb' ⟨g7,i6,cur,ys,rfl,g6,?_⟩ g9 g10 g11,g12,?_,g13⟩
  ·simp only[cond_true]
   rw[g8]
   exact⟨r5,r6,r3,r4⟩
  ·simp only[den,Ren.set_self,df,Nat.sub_zero]
 rcases jE k1 with⟨rfl,k2⟩|⟨i,o,n,c,rfl,k2⟩
 ·cases h1
  cases news with
  |nil=>
   simp at n2
   subst n2
   exact⟨.nilS,M,nx,ρ,w,_,Ren.Le.refl _,h,k2,rfl,eF t ty Ty ht hs none 0 0 (apM _) ao c2⟩
  |cons a r=>
   obtain⟨hl,k3⟩:=aj k2
   obtain⟨M',k4,s1,s2⟩:=T.set_ok _ _ _ _ _ k3
   rw[bY,bY,cw,n2]at k4
   rw[cw,n2]at hl
   obtain⟨l1,l2⟩:=adC hl
   have hm:0<m:=by rw[←n2];simp
   obtain⟨b,ob,rfl,hc⟩:=n5 hm
   obtain⟨v',w',r1,r2,r3,_,r5⟩:=run_append_own_at (P:=P) w 0 t ty Ty inf z sz bytes ht i1 i2 i3 i5 i4 i6 (.slice none 0 0) 0 [] (World.ownsRow_nil w _ Ty sz) ⟨b,ob,none⟩ m c2 ns n4 (fun j u hu=>by rw[de];exact hc j u hu) hone' (by omega) (by rw[Nat.zero_add];omega) (Nat.zero_le _)
   rw[Nat.zero_add,apD]at r2
   exact fin (i:=nx) (old:=none) (fun b q=>by cases q) r3 r2 hm (r5.imp id .inl) n1 n3 n2 s1 (fun m' q _=>s2 m' q) (fun q=>absurd rfl q) k4 r1
 ·simp only[den]at h1
  split at h1
  case h_2=>cases h1
  rename_i e hei
  cases h1
  cases news with
  |nil=>
   simp at n2
   subst n2
   cases c with
   |ex cc=>
    obtain⟨hle,k3⟩:=aj k2
    rw[Nat.ble_eq]at hle
    exact⟨_,M,nx,ρ,w,_,Ren.Le.refl _,h,k3,by simp only[den,hei],eF t ty Ty ht hs _ n (df e (.ex cc)) hle ao c2⟩
   |rest k=>
    obtain⟨g,Ty',sz',els,hi,k3⟩:=cM k2
    obtain⟨hg,k4⟩:=aj k3
    subst hg
    obtain⟨hkn,k5⟩:=aj k4
    rw[Nat.ble_eq,cw]at hkn
    have hkn:k+n≤els.length:=hkn
    obtain⟨f2,arr,xs,q1,_,_,_,_,_,_,_,q9⟩:=h.cellsAt hi
    rw[hei]at q1;cases q1
    obtain⟨_,q10,_⟩:=q9 rfl
    exact⟨_,M,nx,ρ,w,_,Ren.Le.refl _,h,k5,by simp only[den,hei],eF t ty Ty ht hs _ n (df e (.rest k)) (by simp only[df];omega) ao c2⟩
  |cons a r=>
   obtain⟨hl,k3⟩:=aj k2
   rw[cw,n2]at hl
   obtain⟨l1,l2⟩:=adC hl
   have l1:n+m≤100000000:=l1
   have l2:(n+m)*bytes≤100000000:=l2
   have hm:0<m:=by rw[←n2];simp
   obtain⟨b,ob,rfl,hc⟩:=n5 hm
   cases c with
   |ex cc=>
    rcases bi k3 with⟨hcc,k4⟩|⟨hcc,k4⟩
    ·have hcc:n+(a::r).length≤cc:=by
      rw[cw]at hcc
      exact Nat.le_of_ble_eq_true hcc
     rw[n2]at hcc
     obtain⟨ho,k5⟩:=aj k4
     have ho:=apz ho
     subst ho
     obtain⟨g,Ty',sz',els,hi,k6⟩:=cM k5
     obtain⟨hg,k7⟩:=aj k6
     obtain⟨hT,k8⟩:=aj k7
     obtain⟨hS,k9⟩:=aj k8
     have hT:=apz hT
     have hS:=apz hS
     subst hT;subst hS
     have hg:g=false:=by cases g<;>first|rfl|cases hg
     subst hg
     obtain⟨k10,hle⟩:=fJ k9
     obtain⟨M',k11,s1,s2⟩:=T.set_ok _ _ _ _ _ k10
     rw[bY,cw,n2]at k11
     obtain⟨f2,arr,xs,q1,q2,q3,q4,q5,q6,q7,q8,_⟩:=h.cellsAt hi
     rw[hei]at q1;cases q1
     have harr:=q8 rfl
     have hxl:xs.length=els.length*sz':=by rw[cL q3,fe q4]
     have hle':n+m≤els.length:=by rw[←n2];exact hle
     have hmul:(n+m)*sz'≤els.length*sz':=Nat.mul_le_mul_right _ hle'
     have hadd:(n+m)*sz'=n*sz'+m*sz':=Nat.add_mul ..
     have hsz:arr.size=xs.length:=by rw[←Array.length_toList,harr]
     have hfit:n*inf.size+ns.length≤arr.size:=by rw[i3,n4];omega
     have hr:=run_append_room (P:=P) w t ty Ty' inf ht i1 e.b n cc arr q2 ⟨b,ob,none⟩ m c2 ns (by rw[n4,i3]) (fun j u hu=>by rw[de];exact hc j u hu) hone' hcc hfit
     have hfl:(els.take n++(a::r)++els.drop (n+(a::r).length)).flatten=els.flatten.take (n*sz')++(a::r).flatten++els.flatten.drop (n*sz'+((a::r).flatten).length):=by
      have e1:els.flatten=(els.take n).flatten++(els.drop n).flatten:=by rw[←List.flatten_append,List.take_append_drop]
      have e2:els.flatten=(els.take (n+(a::r).length)).flatten++(els.drop (n+(a::r).length)).flatten:=by rw[←List.flatten_append,List.take_append_drop]
      have f1:(els.take n).flatten.length=n*sz':=by
       rw[fe (sz:=sz') (fun l hl=>q4 l (List.mem_of_mem_take hl)),apL,Nat.min_eq_left (by omega)]
      have f2:(els.take (n+(a::r).length)).flatten.length=n*sz'+((a::r).flatten).length:=by
       rw[fe (sz:=sz') (fun l hl=>q4 l (List.mem_of_mem_take hl)),apL,Nat.min_eq_left hle,fe n3,Nat.add_mul]
      rw[List.flatten_append,List.flatten_append]
      congr 1
      ·congr 1
       conv=>rhs;rw[e1]
       exact(List.take_left' f1).symm
      ·conv=>rhs;rw[e2]
       exact(List.drop_left' f2).symm
     refine⟨.sl i 0 (n+m) (.ex cc),M',nx,ρ,w.setRow e.b (arr.toList.take (n*inf.size)++ns++arr.toList.drop (n*inf.size+ns.length)).toArray,.slice (some ⟨e.b,0,none⟩) (n+m) cc,Ren.Le.refl _,h.turn (o':=.blk false Ty' sz' (els.take n++(a::r)++els.drop (n+(a::r).length))) (ob':=.cells (arr.toList.take (n*inf.size)++ns++arr.toList.drop (n*inf.size+ns.length)).toArray Ty' (0,0)) hi hei rfl rfl rfl (fun b' _ hb=>setRow_other w e.b b' _ hb) (setRow_heap w e.b arr _ Ty' _ q2) ⟨?_,q5,_,arr.toList.take (n*inf.size)++ns++arr.toList.drop (n*inf.size+ns.length),rfl,?_,?_⟩ s1 s2,k11,by simp only[den,hei,df],hr⟩
     ·intro l hl
      simp only[apK]at hl
      rcases hl with(hl|hl)|hl
      ·exact q4 l (List.mem_of_mem_take hl)
      ·exact n3 l hl
      ·exact q4 l (List.mem_of_mem_drop hl)
     ·rw[hfl,i3,harr]
      have hnl:=cL n1
      rw[←hnl]
      exact eD (eD (tS _ q3) n1) (pm _ q3)
     ·simp
    have hcc:cc<n+m:=by
     rw[cw,n2]at hcc
     rcases Nat.lt_or_ge cc (n+m) with q|q
     ·exact q
     ·have:Nat.ble (n+m) cc=true:=by rw[Nat.ble_eq];exact q
      have hcc:Nat.ble (n+m) cc=false:=hcc
      rw[this]at hcc;cases hcc
    obtain⟨olds,os,ao1,n',c',k5,o1,o2,o3,o4,o5,o6⟩:=OI h (v:=.sl i o n (.ex cc)) (x:=.slice (some ⟨e.b,o,none⟩) n cc) (by simp only[den,hei,df]) k4
    injection o2 with o21 o22 o23
    subst o22
    rw[BC]at k5
    obtain⟨M',k6,s1,s2⟩:=T.set_ok _ _ _ _ _ k5
    rw[bY,bY,cw,n2]at k6
    obtain⟨v',w',r1,r2,r3⟩:=run_append_arg_grows (P:=P) w t ty Ty inf z sz bytes ht i1 i2 i3 i5 i4 i6 ⟨e.b,o,none⟩ n cc os o5 (fun j u hu=>by
      rw[de]
      have hj:=(List.getElem?_eq_some_iff.1 hu).1
      have hn0:0<n:=by
       rcases Nat.eq_zero_or_pos n with q|q
       ·rw[q,Nat.zero_mul]at o5;omega
       ·exact q
      obtain⟨b1,ob1,q1,q2⟩:=o6 hn0
      rw[←o21]at q1
      cases q1
      exact q2 j u hu) ⟨b,ob,none⟩ m c2 ns n4 (fun j u hu=>by rw[de];exact hc j u hu) hcc (by omega) (by omega)
    exact fin (i:=nx) (old:=none) (els:=olds++a::r) (fun b q=>by cases q) r3 r2 (by omega) (.inr (.inr (apM _))) (by rw[List.flatten_append];exact eD o1 n1)
     (fun l hl=>by
      rcases apK.1 hl with q|q
      ·exact o4 l q
      ·exact n3 l q) (by rw[apv,o3,n2]) s1 (fun m' q _=>s2 m' q) (fun q=>absurd rfl q) k6 r1
   |rest k=>
    obtain⟨hk0,k4⟩:=aj k3
    obtain⟨ho0,k5⟩:=aj k4
    have hk0:=apz hk0
    have ho0:=apz ho0
    subst hk0;subst ho0
    obtain⟨g,Ty',sz',els,hi,k6⟩:=cM k5
    obtain⟨hg,k7⟩:=aj k6
    subst hg
    obtain⟨hln,k8⟩:=aj k7
    obtain⟨hT,k9⟩:=aj k8
    obtain⟨hS,k10⟩:=aj k9
    have hln:els.length=n:=by rw[←cw];exact apz hln
    have hT:=apz hT
    have hS:=apz hS
    subst hT;subst hS
    rw[BC]at k10
    obtain⟨M1,k11,s1,s2⟩:=T.set_ok _ _ _ _ _ k10
    obtain⟨M',k12,s3,s4⟩:=T.set_ok _ _ _ _ _ k11
    rw[bY,bY,cw,n2]at k12
    obtain⟨f2,arr,xs,q1,q2,q3,q4,q5,q6,q7,_,q9⟩:=h.cellsAt hi
    rw[hei]at q1;cases q1
    obtain⟨p1,p2,p3⟩:=q9 rfl
    have hxl:xs.length=n*sz':=by rw[cL q3,fe q4,hln]
    obtain⟨v',w',r1,r2,r3,_,r5⟩:=run_append_own_at (P:=P) w 0 t ty Ty' inf z sz' bytes ht i1 i2 i3 i5 i4 i6 (.slice (some ⟨e.b,0,none⟩) n (df e (.rest 0))) n xs
     ⟨hxl,.inr ⟨e.b,e.cap,arr,by simp[df],Nat.zero_le _,q2,by omega,p3,p1,by rw[←hxl];exact q7⟩⟩ ⟨b,ob,none⟩ m c2 ns n4 (fun j u hu=>by rw[de];exact hc j u hu) hone' (by omega) (by omega) (Nat.zero_le _)
    have hinx:i≠nx:=fun q=>by rw[q,h0]at hei;cases hei
    exact fin (i:=i) (old:=some e.b) (els:=els++a::r) (fun b q=>⟨e,_,hi,hei,apT q,rfl⟩) r3 r2 (by omega) (r5.imp id .inl) (by rw[List.flatten_append];exact eD q3 n1)
     (fun l hl=>by
      rcases apK.1 hl with q|q
      ·exact q4 l q
      ·exact n3 l q) (by rw[apv,hln,n2]) s3 (fun m' q1 q2=>by rw[s4 m' q1,s2 m' q2]) (fun _=>by rw[s4 i hinx,s1]) k12 r1
end
inductive ET
 |int|bool|str
 |st (fs:List (Nat×Nat×Bool×ET))
 |ar (offs:List Nat) (n:Nat) (agg:Bool) (e:ET)
noncomputable def iy (agg:Bool) (off n:Nat) (cs:List AV) (K:AV→Bool):Bool:=bn agg (DC (Bz cs off) n fun l=>K (.agg l)) (eu (fb cs off) K)
noncomputable def agE (eq:ET→AV→AV→(Bool→Bool)→Bool) (cs ds:List AV) (fs:List (Nat×Nat×Bool×ET)) (K:Bool→Bool):Bool:=
 List.rec (K true) (fun f _ ih=>iy f.2.2.1 f.1 f.2.1 cs fun u=>iy f.2.2.1 f.1 f.2.1 ds fun v=>eq f.2.2.2 u v fun b=>bn b ih (K false)) fs
noncomputable def agD (eq:ET→AV→AV→(Bool→Bool)→Bool) (cs ds:List AV) (n:Nat) (agg:Bool) (e:ET) (offs:List Nat) (K:Bool→Bool):Bool:=
 List.rec (K true) (fun o _ ih=>iy agg o n cs fun u=>iy agg o n ds fun v=>eq e u v fun b=>bn b ih (K false)) offs
noncomputable def eqZ (u v:AV) (K:Bool→Bool):Bool:=bn (Bool.or (fy u) (fy v)) (pp u fun k a=>pp v fun k2 b=>aa (Nat.beq k k2) (bn (aN (a=b)) (K true) (K false))) (jF u fun k a=>jF v fun k2 b=>aa (Nat.beq k k2) (fB (xP a b) K))
noncomputable def aoo (u v:AV) (K:Bool→Bool):Bool:=acm u fun a=>acm v fun b=>fB (Bool.rec (Bool.not b) b a) K
noncomputable def aom (u v:AV) (K:Bool→Bool):Bool:=bn (Bool.or (fy u) (fy v)) (Fi u fun l=>Fi v fun m=>bn (aN (l=m)) (K true) (K false)) (qX u fun l=>qX v fun m=>aa (BQ l) (aa (BQ m) (fB (Sw l m) K)))
theorem aej {E:Env} {ρ:Ren} {u v:AV} {x y:Value} {K:Bool→Bool} (hx:den E ρ u=some x) (hy:den E ρ v=some y) (h:eqZ u v K=true):∃k a b,x= .int (cR k) a∧y= .int (cR k) b∧K (decide (a=b))=true:=by
 rcases bi h with⟨_,g⟩|⟨_,g⟩
 ·obtain⟨k,a,rfl,g1⟩:=jD hx g
  obtain⟨k2,b,rfl,g2⟩:=jD hy g1
  obtain⟨g3,g4⟩:=aj g2
  have g3:=apz g3
  subst g3
  refine⟨k,a,b,rfl,rfl,?_⟩
  rcases jC g4 with⟨q,g⟩|⟨q,g⟩
  ·rw[decide_eq_true q];exact g
  ·rw[decide_eq_false q];exact g
 ·obtain⟨k,a,b,rfl,rfl,g5⟩:=qe (f:=fun _ a b=>fB (xP a b) K) g
  rw[zO,xO]at g5
  cases hx;cases hy
  exact⟨k,a,b,rfl,rfl,g5⟩
theorem Zl {E:Env} {ρ:Ren} {u v:AV} {x y:Value} {K:Bool→Bool} (hx:den E ρ u=some x) (hy:den E ρ v=some y) (h:aoo u v K=true):∃a b:Bool,x= .bool a∧y= .bool b∧K (Bool.rec (Bool.not b) b a)=true:=by
 obtain⟨a,rfl,g1⟩:=ON hx h
 obtain⟨b,rfl,g2⟩:=ON hy g1
 rw[zO]at g2
 exact⟨a,b,rfl,rfl,g2⟩
theorem Zk {E:Env} {ρ:Ren} {u v:AV} {x y:Value} {K:Bool→Bool} (hx:den E ρ u=some x) (hy:den E ρ v=some y) (h:aom u v K=true):∃l m:List UInt8,x=S l∧y=S m∧K (decide (l=m))=true:=by
 rcases bi h with⟨_,g⟩|⟨_,g⟩
 ·obtain⟨l,rfl,g1⟩:=og hx g
  obtain⟨m,rfl,g2⟩:=og hy g1
  refine⟨l,m,rfl,rfl,?_⟩
  rcases jC g2 with⟨q,g⟩|⟨q,g⟩
  ·rw[decide_eq_true q];exact g
  ·rw[decide_eq_false q];exact g
 ·obtain⟨l,rfl,g1⟩:=jj g
  obtain⟨m,rfl,g2⟩:=jj g1
  obtain⟨hl,g3⟩:=aj g2
  obtain⟨hm,g4⟩:=aj g3
  rw[KJ]at hl hm
  rw[zO,By]at g4
  cases hx;cases hy
  refine⟨_,_,rfl,rfl,?_⟩
  rw[show decide (l.map UInt8.ofNat=m.map UInt8.ofNat)=decide (l=m) from by rw[Bool.eq_iff_iff];simp[ag9 hl hm]]
  exact g4
noncomputable def tR:Nat→ET→AV→AV→(Bool→Bool)→Bool:=
 Nat.rec (fun _ _ _ _=>false) (fun _ ih et u v K=>ET.casesOn et
  (eqZ u v K)
  (aoo u v K)
  (aom u v K)
  (fun fs=>asAgg u fun cs=>asAgg v fun ds=>agE ih cs ds fs K)
  (fun offs n agg e=>asAgg u fun cs=>asAgg v fun ds=>agD ih cs ds n agg e offs K))
def fA (chk:ET→TypeId→Bool) (P:Program):List Field→List (Nat×Nat×Bool×ET)→Bool
 |[],[]=>true
 |f::fs,g::gs=>f.name != "_" &&decide (f.offset=g.1)&&decide (cA P f.type=some g.2.1)&&decide (kC P f.type=some g.2.2.1)&&chk g.2.2.2 f.type&&fA chk P fs gs
 |_,_=>false
def du (P:Program):Nat→ET→TypeId→Bool
 |0,_,_=>false
 |d+1,et,t=>match et,P.underlying t with
  |.int,some (.int _)=>true
  |.bool,some .bool=>true
  |.str,some .string=>true
  |.st gs,some (.struct fs)=> !P.stoodInHeld t&&fA (du P d) P fs.toList gs
  |.ar offs n agg e,some (.array len el)=>decide (cA P el=some n)&&decide (kC P el=some agg)&&decide (offs=(List.range len).map (· *n))&&du P d e el
  |_,_=>false
section
variable {P:Program} {E:Env} {ρ:Ren}
theorem rE {agg:Bool} {off n:Nat} {cs:List AV} {K:AV→Bool} {xs:List Value} (hd:aS E ρ cs=some xs) (hk:iy agg off n cs K=true) {t:TypeId} (hag:kC P t=some agg) (hs:cA P t=some n):
  ∃u z,den E ρ u=some z∧K u=true∧∀w,(part t xs.toArray off).run P w= .ok z w:=Og hd hk hag hs
def ag8 (P:Program) (d:Nat) (xs ys:List Value):List (TypeId×Nat)→Bool→Prop
 |[],b=>b=true
 |(t,o)::l,b=>∃zu zv,(∀w,(part t xs.toArray o).run P w= .ok zu w)∧(∀w,(part t ys.toArray o).run P w= .ok zv w)∧
   (((∀(D:Nat) (w:World),d≤D→(Op.equalIn D t zu zv).run P w= .ok true w)∧ag8 P d xs ys l b)∨((∀(D:Nat) (w:World),d≤D→(Op.equalIn D t zu zv).run P w= .ok false w)∧b=false))
theorem Fa:∀(d:Nat) {et:ET} {u v:AV} {K:Bool→Bool} {x y:Value} {t:TypeId},du P d et t=true→den E ρ u=some x→den E ρ v=some y→tR d et u v K=true→
  ∃b,K b=true∧(∀(D:Nat) (w:World),d≤D→(Op.equalIn D t x y).run P w= .ok b w)∧∀dd,P.underlying t=some dd→(Instr.sameNow dd x y=some b∨Instr.sameNow dd x y=none)
 |0,et,u,v,K,x,y,t,hc,_,_,_=>by simp[du]at hc
 |d+1,et,u,v,K,x,y,t,hc,hx,hy,hk=>by
  unfold du at hc
  split at hc
  ·rename_i kk hu
   obtain⟨k,a,b,rfl,rfl,g⟩:=aej hx hy hk
   refine⟨_,g,fun D w hD=> ?_,fun dd hdd=> ?_⟩
   ·obtain⟨D,rfl⟩:∃D',D=D'+1:=⟨D - 1,by omega⟩
    simp[Op.equalIn,run_underlying hu,pn]
   ·rw[hu]at hdd;cases hdd
    exact .inl (by simp[Instr.sameNow,pn])
  ·rename_i hu
   obtain⟨a,b,rfl,rfl,g2⟩:=Zl hx hy hk
   refine⟨_,g2,fun D w hD=> ?_,fun dd hdd=> ?_⟩
   ·obtain⟨D,rfl⟩:∃D',D=D'+1:=⟨D - 1,by omega⟩
    simp only[Op.equalIn,apH,run_underlying hu,apG,Sem.run_pure]
    cases a<;>cases b<;>rfl
   ·rw[hu]at hdd;cases hdd
    exact .inl (by cases a<;>cases b<;>rfl)
  ·rename_i hu
   obtain⟨l,m,rfl,rfl,g4⟩:=Zk hx hy hk
   have hb:((⟨l.toArray⟩:ByteArray)==⟨m.toArray⟩)=decide (l=m):=by
    rw[beq_toListBytes,pb,pb,Bool.eq_iff_iff]
    simp
   refine⟨_,g4,fun D w hD=> ?_,fun dd hdd=> ?_⟩
   ·obtain⟨D,rfl⟩:∃D',D=D'+1:=⟨D - 1,by omega⟩
    simp only[Op.equalIn,apH,run_underlying hu,apG,Sem.run_pure]
    rw[hb]
   ·rw[hu]at hdd;cases hdd
    exact .inl (by simp only[Instr.sameNow,hb])
  ·rename_i gs fs hu
   obtain⟨cs,rfl,g1⟩:=fg hk
   obtain⟨ds,rfl,g2⟩:=fg g1
   simp only[den]at hx hy
   split at hx
   case h_2=>cases hx
   rename_i xs hxs
   split at hy
   case h_2=>cases hy
   rename_i ys hys
   cases hx;cases hy
   simp only[apP,Bool.not_eq_true']at hc
   obtain⟨hst,hf⟩:=hc
   have key:∀(l:List Field) (gs:List (Nat×Nat×Bool×ET)),fA (du P d) P l gs=true→agE (tR d) cs ds gs K=true→∃b,K b=true∧ag8 P d xs ys (l.map fun f=>(f.type,f.offset)) b∧∀f∈l,f.name≠ "_" :=by
    intro l
    induction l with
    |nil=>
     intro gs hf hk
     cases gs with
     |nil=>exact⟨true,hk,rfl,by simp⟩
     |cons g gs=>simp[fA]at hf
    |cons f l ihl=>
     intro gs hf hk
     cases gs with
     |nil=>simp[fA]at hf
     |cons g gs=>
      simp only[fA,apP,decide_eq_true_eq]at hf
      obtain⟨⟨⟨⟨⟨f1,f2⟩,f3⟩,f4⟩,f5⟩,f6⟩:=hf
      have f1:f.name≠ "_" :=by simpa using f1
      have hk':iy g.2.2.1 g.1 g.2.1 cs (fun u=>iy g.2.2.1 g.1 g.2.1 ds fun v=>tR d g.2.2.2 u v fun b=>bn b (agE (tR d) cs ds gs K) (K false))=true:=hk
      obtain⟨u,zu,u1,u2,u3⟩:=rE hxs hk' f4 f3
      obtain⟨v,zv,v1,v2,v3⟩:=rE hys u2 f4 f3
      obtain⟨b,b1,b2,_⟩:=Fa d f5 u1 v1 v2
      rw[←f2]at u3 v3
      rcases bi b1 with⟨rfl,b3⟩|⟨rfl,b3⟩
      ·obtain⟨c,c1,c2,c3⟩:=ihl gs f6 b3
       exact⟨c,c1,⟨zu,zv,u3,v3,.inl ⟨b2,c2⟩⟩,fun g hg=>by rcases apF.1 hg with rfl|hg<;>first|exact f1|exact c3 g hg⟩
      ·have hall:∀(l:List Field) (gs:List (Nat×Nat×Bool×ET)),fA (du P d) P l gs=true→∀f∈l,f.name≠ "_" :=by
        intro l
        induction l with
        |nil=>intro gs _ f hf;simp at hf
        |cons f l ih=>
         intro gs hg f' hf'
         cases gs with
         |nil=>simp[fA]at hg
         |cons g gs=>
          simp only[fA,apP,decide_eq_true_eq]at hg
          rcases apF.1 hf' with rfl|hf'
          ·simpa using hg.1.1.1.1.1
          ·exact ih gs hg.2 f' hf'
       exact⟨false,b3,⟨zu,zv,u3,v3,.inr ⟨b2,rfl⟩⟩,fun g hg=>by
        rcases apF.1 hg with rfl|hg
        ·exact f1
        ·exact hall l gs f6 g hg⟩
   obtain⟨b,b1,b2,b3⟩:=key fs.toList gs hf g2
   refine⟨b,b1,fun D w hD=> ?_,fun dd hdd=>by rw[hu]at hdd;cases hdd;exact .inr rfl⟩
   obtain⟨D,rfl⟩:∃D',D=D'+1:=⟨D - 1,by omega⟩
   simp only[Op.equalIn,apH,run_underlying hu,apG,run_program,hst,Bool.false_eq_true,if_false]
   rw[←Array.forIn_toList]
   generalize fs.toList=l at b2 b3
   clear hu hf key
   induction l with
   |nil=>
    have:b=true:=b2
    subst this
    simp
   |cons f l ihl=>
    obtain⟨zu,zv,u3,v3,hor⟩:=b2
    have hn:=b3 f (by simp)
    simp only[List.forIn_cons,apH]
    rcases hor with⟨e1,e2⟩|⟨e1,rfl⟩
    ·have:=ihl e2 fun g hg=>b3 g (by simp[hg])
     simp[hn,u3,v3,e1 D _ (by omega)]at this ⊢
     exact this
    ·simp[hn,u3,v3,e1 D _ (by omega)]
  ·rename_i offs n agg e len el hu
   obtain⟨cs,rfl,g1⟩:=fg hk
   obtain⟨ds,rfl,g2⟩:=fg g1
   simp only[den]at hx hy
   split at hx
   case h_2=>cases hx
   rename_i xs hxs
   split at hy
   case h_2=>cases hy
   rename_i ys hys
   cases hx;cases hy
   simp only[apP,decide_eq_true_eq]at hc
   obtain⟨⟨⟨c1,c2⟩,c3⟩,c4⟩:=hc
   have key:∀(l:List Nat),agD (tR d) cs ds n agg e l K=true→∃b,K b=true∧ag8 P d xs ys (l.map fun o=>(el,o)) b:=by
    intro l
    induction l with
    |nil=>intro hk;exact⟨true,hk,rfl⟩
    |cons o l ihl=>
     intro hk
     have hk':iy agg o n cs (fun u=>iy agg o n ds fun v=>tR d e u v fun b=>bn b (agD (tR d) cs ds n agg e l K) (K false))=true:=hk
     obtain⟨u,zu,u1,u2,u3⟩:=rE hxs hk' c2 c1
     obtain⟨v,zv,v1,v2,v3⟩:=rE hys u2 c2 c1
     obtain⟨b,b1,b2,_⟩:=Fa d c4 u1 v1 v2
     rcases bi b1 with⟨rfl,b3⟩|⟨rfl,b3⟩
     ·obtain⟨c,e1,e2⟩:=ihl b3
      exact⟨c,e1,zu,zv,u3,v3,.inl ⟨b2,e2⟩⟩
     ·exact⟨false,b3,zu,zv,u3,v3,.inr ⟨b2,rfl⟩⟩
   obtain⟨b,b1,b2⟩:=key offs g2
   refine⟨b,b1,fun D w hD=> ?_,fun dd hdd=>by rw[hu]at hdd;cases hdd;exact .inr rfl⟩
   obtain⟨D,rfl⟩:∃D',D=D'+1:=⟨D - 1,by omega⟩
   simp only[Op.equalIn,apH,run_underlying hu,apG,Go.Eng.run_sizeOf c1]
   rw[Std.Legacy.Range.forIn_eq_forIn_range']
   simp only[Std.Legacy.Range.size,Nat.sub_zero,Nat.add_sub_cancel,Nat.div_one]
   rw[c3,List.map_map,List.range_eq_range']at b2
   generalize List.range' 0 len=l at b2 ⊢
   clear hu key c3 g2
   induction l with
   |nil=>
    have:b=true:=b2
    subst this
    simp
   |cons i l ihl=>
    obtain⟨zu,zv,u3,v3,hor⟩:=b2
    simp only[List.forIn_cons,apH]
    rcases hor with⟨e1,e2⟩|⟨e1,rfl⟩
    ·have:=ihl e2
     simp[u3,v3,e1 D _ (by omega)]at this ⊢
     exact this
    ·simp[u3,v3,e1 D _ (by omega)]
  ·cases hc
end
section
variable {P:Program} {E:Env} {ρ:Ren} {G:GS} {F:List bh} {M:T} {nx:Nat} {w:World}
theorem aol {ne:Bool} {d:Nat} {et:ET} {u v:AV} {K:AV→Bool} {x y:Value} {t:TypeId} (hd:d≤10000) (hc:du P d et t=true) (hg:(P.eqGuardType P.depth t=false)) (hx:den E ρ u=some x) (hy:den E ρ v=some y)
  (hk:tR d et u v (fun b=>fB (Bool.rec b (Bool.not b) ne) fun r=>K (.bool r))=true) (p q:Operand):
  ∃u z,den E ρ u=some z∧K u=true∧∀w,((do eqGuard (bif ne then .neq else .eql) t p q x y;binOp (bif ne then .neq else .eql) t x y):Sem Value).run P w= .ok z w:=by
 have hshape:(∃us vs,x= .agg us∧y= .agg vs)∨(∃k a k' b,x= .int k a∧y= .int k' b∧k=k'∧∃kd,P.underlying t=some (.int kd))∨(∃a b,x= .bool a∧y= .bool b)∨((∃a b,x= .string a∧y= .string b)∧P.underlying t=some .string):=by
  cases d with
  |zero=>simp[du]at hc
  |succ d=>
  unfold du at hc
  split at hc
  ·rename_i kd hu
   obtain⟨k,a,b,rfl,rfl,g⟩:=aej hx hy hk
   exact .inr (.inl ⟨_,_,_,_,rfl,rfl,rfl,kd,hu⟩)
  ·obtain⟨a,b,rfl,rfl,g2⟩:=Zl hx hy hk
   exact .inr (.inr (.inl ⟨_,_,rfl,rfl⟩))
  ·rename_i hu
   obtain⟨l,m,rfl,rfl,g2⟩:=Zk hx hy hk
   exact .inr (.inr (.inr ⟨⟨_,_,rfl,rfl⟩,hu⟩))
  ·obtain⟨cs,rfl,g1⟩:=fg hk
   obtain⟨ds,rfl,g2⟩:=fg g1
   simp only[den]at hx hy
   split at hx
   case h_2=>cases hx
   split at hy
   case h_2=>cases hy
   cases hx;cases hy
   exact .inl ⟨_,_,rfl,rfl⟩
  ·obtain⟨cs,rfl,g1⟩:=fg hk
   obtain⟨ds,rfl,g2⟩:=fg g1
   simp only[den]at hx hy
   split at hx
   case h_2=>cases hx
   split at hy
   case h_2=>cases hy
   cases hx;cases hy
   exact .inl ⟨_,_,rfl,rfl⟩
  ·cases hc
 obtain⟨b,b1,b2,b3⟩:=Fa d hc hx hy hk
 rw[zO]at b1
 refine⟨_,_,rfl,b1,fun w=> ?_⟩
 have hr:(Op.equal t x y).run P w= .ok b w:=b2 10000 w hd
 have hr':(Op.equalIn 10000 t x y).run P w= .ok b w:=b2 10000 w hd
 rcases hshape with⟨us,vs,rfl,rfl⟩|⟨k,a,k',c,rfl,rfl,rfl,kd,hu⟩|⟨a,c,rfl,rfl⟩|⟨⟨a,c,rfl,rfl⟩,hu⟩
 ·cases ne
  ·simp only[cond_false,apH,run_eqGuard_agg w .eql t p q us vs hg,apG,run_eql_struct,hr']
  ·simp only[cond_true,apH,run_eqGuard_agg w .neq t p q us vs hg,apG,run_neq_struct,hr']
 ·have hb:b=decide (a=c):=by
   rcases b3 _ hu with q|q
   ·simp[Instr.sameNow,pn]at q;exact q.symm
   ·simp[Instr.sameNow]at q
  subst hb
  cases ne<;>simp[eqGuard,binOp,Op.intCmp,bne,pn]
 ·cases ne<;>simp[eqGuard,binOp,hr]
 ·have hb:b=(a.toList==c.toList):=by
   rcases b3 _ hu with q|q
   ·simp only[Instr.sameNow,apQ]at q
    rw[←q,beq_toListBytes]
   ·simp[Instr.sameNow]at q
  subst hb
  cases ne<;>simp[eqGuard,binOp,Op.stringOp]
noncomputable def TX (d:Nat) (et:ET) (k:AV) (es:List (AV×AV×Nat)) (Kn:Bool) (Ks:Nat→AV×AV×Nat→Bool):Bool:=
 List.rec (fun _=>Kn) (fun e _ ih i=>tR d et k e.1 fun b=>bn b (Ks i e) (ih (Nat.succ i))) es 0
theorem dO {k v:AV} {b:Nat} {r:List (AV×AV×Nat)} {ms:List MapEntry} (h:bU E ρ ((k,v,b)::r)=some ms):∃x y ms',den E ρ k=some x∧den E ρ v=some y∧bU E ρ r=some ms'∧ms=⟨x,y,b⟩::ms':=by
 unfold bU at h
 split at h
 ·rename_i x y es h1 h2 h3
  exact⟨x,y,es,h1,h2,h3,(apT h).symm⟩
 ·cases h
theorem Wa {d:Nat} {et:ET} {k:AV} {x:Value} {kt:TypeId} (hd:d≤10000) (hc:du P d et kt=true) (hx:den E ρ k=some x):∀{es:List (AV×AV×Nat)} {ms:List MapEntry} {i:Nat} {Kn:Bool} {Ks:Nat→AV×AV×Nat→Bool},
  bU E ρ es=some ms→(List.rec (motive:=fun _=>Nat→Bool) (fun _=>Kn) (fun e _ ih i=>tR d et k e.1 fun b=>bn b (Ks i e) (ih (Nat.succ i))) es i:Bool)=true→
  (Kn=true∧∀w,(Instr.findAsking kt x ms i).run P w= .ok none w∧∀dd,P.underlying kt=some dd→(Instr.findNow dd x ms i=some none∨(Instr.findNow dd x ms i=none)))∨
  (∃j e y,es[j]?=some e∧Ks (i+j) e=true∧den E ρ e.2.1=some y∧∀w,(Instr.findAsking kt x ms i).run P w= .ok (some (i+j,y)) w∧∀dd,P.underlying kt=some dd→(Instr.findNow dd x ms i=some (some (i+j,y))∨Instr.findNow dd x ms i=none))
 |[],ms,i,Kn,Ks,he,hk=>by
  simp[bU]at he
  subst he
  exact .inl ⟨hk,fun w=>⟨by simp[Instr.findAsking],fun dd _=>.inl rfl⟩⟩
 |(k',v',b')::es,ms,i,Kn,Ks,he,hk=>by
  obtain⟨x',y',ms',h1,h2,h3,rfl⟩:=dO he
  have hk':tR d et k k' (fun b=>bn b (Ks i (k',v',b')) (List.rec (motive:=fun _=>Nat→Bool) (fun _=>Kn) (fun e _ ih i=>tR d et k e.1 fun b=>bn b (Ks i e) (ih (Nat.succ i))) es (Nat.succ i)))=true:=hk
  obtain⟨b,b1,b2,hsn⟩:=Fa d hc hx h1 hk'
  have hr:∀w,(Op.equal kt x x').run P w= .ok b w:=fun w=>b2 10000 w hd
  rcases bi b1 with⟨rfl,b3⟩|⟨rfl,b3⟩
  ·refine .inr ⟨0,_,y',rfl,b3,h2,fun w=>⟨by simp[Instr.findAsking,hr],fun dd hu=> ?_⟩⟩
   rcases hsn dd hu with q|q<;>simp[Instr.findNow,q]
  ·rcases Wa hd hc hx h3 b3 with⟨q1,q2⟩|⟨j,e,y,q1,q2,q3,q4⟩
   ·refine .inl ⟨q1,fun w=>⟨by simp[Instr.findAsking,hr,(q2 w).1],fun dd hu=> ?_⟩⟩
    rcases hsn dd hu with q|q
    ·simp only[Instr.findNow,q]
     exact(q2 w).2 dd hu
    ·exact .inr (by simp[Instr.findNow,q])
   ·refine .inr ⟨j+1,e,y,by simpa using q1,by rw[←Nat.add_assoc,Nat.add_right_comm];exact q2,q3,fun w=>⟨by simp[Instr.findAsking,hr,(q4 w).1];omega,fun dd hu=> ?_⟩⟩
    rcases hsn dd hu with q|q
    ·simp only[Instr.findNow,q]
     have:=(q4 w).2 dd hu
     rw[show i+1+j=i+(j+1) by omega]at this
     exact this
    ·exact .inr (by simp[Instr.findNow,q])
end
end Go.Sy
