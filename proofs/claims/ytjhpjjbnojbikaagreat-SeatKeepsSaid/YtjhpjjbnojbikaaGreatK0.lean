/- Definitions and lemmas of the proof, without a condition of their own. -/
import Derived.WalkKit
import Derived.Orders
import Derived.Maps.AppendAt
import Derived.Lib.ItoaMem
import Derived.Lib.ItoaLen
import Derived.Lib.LaidTab
import Derived.Sort.Grow
import Derived.Lib.AppendStr
import Derived.Lib.UnsafeStr
import Derived.Lib.Builder
import Derived.MapKept
import Derived.Laws.StructEq
import Derived.Lib.Join
import Derived.Lib.JoinLaws
import Derived.Deep.Slices
import Derived.OpenShut
import Derived.SizedLaws
import Derived.Laws.MakeOwn
import Derived.Laws.Slices
import Derived.ArgAppend
import Derived.Deep.Upon
set_option linter.unusedSimpArgs false
set_option linter.unusedVariables false
open Bool renaming and_eq_true→aml
open Go.Result renaming andThen_ok→ame
open Go.Sem renaming run_bind→amf
open List renaming append_assoc→amb,cons_append→ama,flatten_cons→al8,getElem?_map→amn,getElem?_take_of_lt→amk,length_append→al2,length_cons→al3,length_drop→amr,length_take→ami,map_append→amg,map_cons→al9,mem_append→amh,mem_of_getElem?→al7,nil_append→amc
open Nat renaming blt_eq→amq,eq_of_beq_eq_true→al6,le_refl→amj
open Option renaming map_eq_some_iff→amd
open Option.some renaming inj→amp,injEq→amm
namespace Go.Eng
open Go Go.RowKit
abbrev dS:=Nat→Option Obj
structure GS where
 M:dS
 os:Os
 tape:Nat→Question→Nat
 output:Array (Nat×ByteArray)
def GS.of (w:World):GS:=⟨fun b=>w.heap[b]?,w.os,w.tape,w.output⟩
structure GS.Le (G G':GS):Prop where
 os:G'.os=G.os
 tape:G'.tape=G.tape
 output:G'.output=G.output
 mem:∀b o,G.M b=some o→G'.M b=some o
theorem GS.Le.refl (G:GS):G.Le G:=⟨rfl,rfl,rfl,fun _ _ h=>h⟩
theorem GS.Le.trans {a b c:GS} (h:a.Le b) (k:b.Le c):a.Le c:=
 ⟨k.os.trans h.os,k.tape.trans h.tape,k.output.trans h.output,fun x o e=>k.mem x o (h.mem x o e)⟩
abbrev aH:=List (Nat×Obj)
structure Holds (G:GS) (w:World) (H:List aH):Prop where
 os:w.os=G.os
 tape:w.tape=G.tape
 output:w.output=G.output
 mem:∀b o,G.M b=some o→w.heap[b]?=some o
 own:∀p∈H.flatten,w.heap[p.1]?=some p.2
 nodup:(H.flatten.map (·.1)).Nodup
 apart:∀p∈H.flatten,G.M p.1=none
theorem bn {w:World} {b:Nat} {o:Obj} (h:w.heap[b]?=some o):b<w.heap.size:=by
 rcases Nat.lt_or_ge b w.heap.size with hlt|hge
 ·exact hlt
 ·rw[Array.getElem?_eq_none hge]at h;cases h
theorem Holds.start (w:World):Holds (GS.of w) w []:=
 ⟨rfl,rfl,rfl,fun _ _ h=>h,fun _ h=>by simp at h,by simp,fun _ h=>by simp at h⟩
theorem Holds.below {W w:World} {G:GS} {H:List aH} (hg:(GS.of W).Le G) (h:Holds G w H):Below W.heap.size W w:=by
 have hb:∀k,k<W.heap.size→w.heap[k]?=W.heap[k]?:=by
  intro k hk
  have e:W.heap[k]?=some W.heap[k]:=Array.getElem?_eq_getElem hk
  rw[e]
  exact h.mem k _ (hg.mem k _ e)
 refine⟨h.os.trans hg.os,h.tape.trans hg.tape,h.output.trans hg.output,?_,hb⟩
 rcases Nat.eq_zero_or_pos W.heap.size with h0|h0
 ·omega
 ·have hk:=hb (W.heap.size - 1) (by omega)
  rw[Array.getElem?_eq_getElem (show W.heap.size - 1<W.heap.size by omega)]at hk
  have:=bn hk
  omega
theorem Holds.drew {G:GS} {w:World} {H:List aH} (h:Holds G w H):Holds G w.drew H:=
 ⟨h.os,h.tape,h.output,h.mem,h.own,h.nodup,h.apart⟩
theorem Holds.drawn {G:GS} {w:World} {H:List aH} (h:Holds G w H):Holds G {w with drawn:=w.drawn+1} H:=
 ⟨h.os,h.tape,h.output,h.mem,h.own,h.nodup,h.apart⟩
theorem Holds.perm {G:GS} {w:World} {H H':List aH} (h:Holds G w H) (p:H'.flatten.Perm H.flatten):Holds G w H':=
 ⟨h.os,h.tape,h.output,h.mem,fun x hx=>h.own x (p.mem_iff.1 hx),((p.map (·.1)).nodup_iff).2 h.nodup,fun x hx=>h.apart x (p.mem_iff.1 hx)⟩
theorem Holds.drop {G:GS} {w:World} {c:aH} {H:List aH} (h:Holds G w (c::H)):Holds G w H:=by
 refine⟨h.os,h.tape,h.output,h.mem,fun x hx=>h.own x (by simp only[al8,amh];exact .inr hx),?_,fun x hx=>h.apart x (by simp only[al8,amh];exact .inr hx)⟩
 have:=h.nodup
 simp only[al8,amg]at this
 exact(List.nodup_append.1 this).2.1
theorem Holds.alloc {G:GS} {w:World} {H:List aH} (h:Holds G w H) (o:Obj):Holds G (w.alloc o) ([(w.heap.size,o)]::H):=by
 have hlt:∀p∈H.flatten,p.1<w.heap.size:=fun p hp=>bn (h.own p hp)
 refine⟨h.os,h.tape,h.output,fun b o' hb=> ?_,fun p hp=> ?_,?_,fun p hp=> ?_⟩
 ·have:=h.mem b o' hb
  rw[Below.heap_alloc _ _ _ (bn this)];exact this
 ·simp only[al8,ama,amc,List.mem_cons]at hp
  rcases hp with rfl|hp
  ·exact heap_alloc_new w o
  ·rw[Below.heap_alloc _ _ _ (hlt p hp)];exact h.own p hp
 ·simp only[al8,ama,amc,al9,List.nodup_cons]
  refine⟨fun hm=> ?_,h.nodup⟩
  obtain⟨p,hp,e⟩:=List.mem_map.1 hm
  have:=hlt p hp
  omega
 ·simp only[al8,ama,amc,List.mem_cons]at hp
  rcases hp with rfl|hp
  ·rcases hM:G.M w.heap.size with _|o'
   ·rfl
   ·have:=bn (h.mem _ _ hM);omega
  ·exact h.apart p hp
theorem Holds.turn {G:GS} {w w':World} {c c':aH} {H:List aH} (h:Holds G w (c::H)) (hos:w'.os=w.os) (ht:w'.tape=w.tape) (ho:w'.output=w.output)
  (hk:c'.map (·.1)=c.map (·.1)) (hel:∀b,b<w.heap.size→b∉c.map (·.1)→w'.heap[b]?=w.heap[b]?) (hc:∀p∈c',w'.heap[p.1]?=some p.2):Holds G w' (c'::H):=by
 have hn:=h.nodup
 simp only[al8,amg]at hn
 have hd:=(List.nodup_append.1 hn).2.2
 refine⟨hos.trans h.os,ht.trans h.tape,ho.trans h.output,fun b o hb=> ?_,fun p hp=> ?_,?_,fun p hp=> ?_⟩
 ·have hw:=h.mem b o hb
  rw[hel b (bn hw)];exact hw
  intro hm
  obtain⟨p,hp,rfl⟩:=List.mem_map.1 hm
  have:=h.apart p (by simp only[al8,amh];exact .inl hp)
  rw[this]at hb;cases hb
 ·simp only[al8,amh]at hp
  rcases hp with hp|hp
  ·exact hc p hp
  ·have hw:=h.own p (by simp only[al8,amh];exact .inr hp)
   rw[hel p.1 (bn hw)];exact hw
   intro hm
   exact hd _ hm _ (List.mem_map_of_mem hp) rfl
 ·simp only[al8,amg,hk];exact hn
 ·simp only[al8,amh]at hp
  rcases hp with hp|hp
  ·have:p.1∈c.map (·.1):=hk▸List.mem_map_of_mem hp
   obtain⟨q,hq,e⟩:=List.mem_map.1 this
   rw[←e];exact h.apart q (by simp only[al8,amh];exact .inl hq)
  ·exact h.apart p (by simp only[al8,amh];exact .inr hp)
def GS.add (G:GS) (c:aH):GS:={G with M:=fun b=>match G.M b with|some o=>some o|none=>(c.find? (·.1==b)).map (·.2)}
theorem kS:∀(c:aH),(c.map (·.1)).Nodup→∀p∈c,c.find? (·.1==p.1)=some p
 |[],_,_,h=>by simp at h
 |q::c,hn,p,h=>by
  simp only[al9,List.nodup_cons]at hn
  simp only[List.find?_cons]
  rcases List.mem_cons.1 h with rfl|h
  ·simp
  ·have:(q.1==p.1)=false:=by
    rw[beq_eq_false_iff_ne]
    intro e
    exact hn.1 (e▸List.mem_map_of_mem h)
   rw[this]
   exact kS c hn.2 p h
theorem Holds.toG {G:GS} {w:World} {c:aH} {H:List aH} (h:Holds G w (c::H)):G.Le (G.add c)∧Holds (G.add c) w H∧∀p∈c,(G.add c).M p.1=some p.2:=by
 have hn:=h.nodup
 simp only[al8,amg]at hn
 obtain⟨hn1,_,hd⟩:=List.nodup_append.1 hn
 have hM:∀p∈c,(G.add c).M p.1=some p.2:=by
  intro p hp
  have:=h.apart p (by simp only[al8,amh];exact .inl hp)
  simp only[GS.add,this,kS c hn1 p hp,Option.map_some]
 refine⟨⟨rfl,rfl,rfl,fun b o hb=>by simp[GS.add,hb]⟩,⟨h.os,h.tape,h.output,fun b o hb=> ?_,h.drop.own,h.drop.nodup,fun p hp=> ?_⟩,hM⟩
 ·rcases e:G.M b with _|o'
  ·simp only[GS.add,e,amd]at hb
   obtain⟨p,hf,rfl⟩:=hb
   have hm:=List.mem_of_find?_eq_some hf
   have he:p.1=b:=by simpa using List.find?_some hf
   rw[←he]
   exact h.own p (by simp only[al8,amh];exact .inl hm)
  ·have:o'=o:=by simpa[GS.add,e] using hb
   subst this
   exact h.mem b _ e
 ·have h1:=h.drop.apart p hp
  simp only[GS.add,h1,Option.map_eq_none_iff,List.find?_eq_none]
  intro q hq
  simp only[beq_iff_eq]
  intro e
  exact hd _ (List.mem_map_of_mem hq) _ (List.mem_map_of_mem hp) e
def lk:List (Nat×Value)→Nat→Option Value
 |[],_=>none
 |(k,v)::r,t=>bif Nat.beq t k then some v else lk r t
structure SF (N:Nat) (a:Act) (L:List (Nat×Value)):Prop where
 size:a.tmps.size=N
 defers:a.defers=[]
 at_:∀t v,lk L t=some v→a.tmps.getD t undef=v
def TU (L:List (Nat×Value)):Operand→Option Value
 |.tmp t=>lk L t
 |.const v=>some v
 |.global g=>some (.pointer (some ⟨g,0,none⟩))
 |.func f=>some (.func (.func f) #[] #[])
theorem SF.ev {N:Nat} {a:Act} {L:List (Nat×Value)} (s:SF N a L) {x:Operand} {v:Value} (h:TU L x=some v):a.eval x=v:=by
 cases x with
 |tmp t=>exact s.at_ t v h
 |const c=>simpa[TU,Act.eval] using h
 |global g=>simpa[TU,Act.eval] using h
 |func f=>simpa[TU,Act.eval] using h
theorem SF.put {N:Nat} {a:Act} {L:List (Nat×Value)} (s:SF N a L) (d:Nat) (hd:Nat.blt d N=true) (v:Value):SF N (a.put (some d) v) ((d,v)::L):=by
 have hd':d<N:=by simpa[amq] using hd
 refine⟨by simpa[Act.put] using s.size,s.defers,fun t u h=> ?_⟩
 simp only[Act.put]
 by_cases e:t=d
 ·subst e
  simp only[lk,Nat.beq_refl,cond_true,amm]at h
  subst h
  have:=s.size
  simp[Array.getD,this,hd']
 ·have hb:Nat.beq t d=false:=by
   cases hb:Nat.beq t d with
   |false=>rfl
   |true=>exact absurd (al6 hb) e
  simp only[lk,hb,cond_false]at h
  rw[←s.at_ t u h]
  simp only[Array.getD,Array.size_setIfInBounds]
  split
  ·simp only[Array.getInternal_eq_getElem]
   rw[Array.getElem_setIfInBounds_ne]
   exact fun e'=>e e'.symm
  ·rfl
theorem SF.sub {N:Nat} {a:Act} {L L':List (Nat×Value)} (s:SF N a L) (h:∀p∈L',lk L p.1=some p.2):SF N a L':=by
 refine⟨s.size,s.defers,fun t v hv=>s.at_ t v ?_⟩
 have key:∀K:List (Nat×Value),lk K t=some v→∃p∈K,p.1=t∧p.2=v:=by
  intro K
  induction K with
  |nil=>intro e;simp[lk]at e
  |cons p K ih=>
   intro e
   obtain⟨k,u⟩:=p
   cases hb:Nat.beq t k with
   |true=>
    simp only[lk,hb,cond_true,amm]at e
    exact⟨(k,u),by simp,(al6 hb).symm,e⟩
   |false=>
    simp only[lk,hb,cond_false]at e
    obtain⟨q,hq,e1,e2⟩:=ih e
    exact⟨q,by simp[hq],e1,e2⟩
 obtain⟨p,hp,rfl,rfl⟩:=key L' hv
 exact h p hp
theorem all_cons {p:(Nat×Value)→Prop} {x:Nat×Value} {l:List (Nat×Value)} (h:p x) (hl:∀y∈l,p y):∀y∈x::l,p y:=by
 intro y hy
 rcases List.mem_cons.1 hy with rfl|hy
 ·exact h
 ·exact hl y hy
theorem SF.enter (N:Nat) (args:List Value) (h:args.length≤N):
  SF N {tmps:=args.toArray++Array.replicate (N - args.length) undef,defers:=[]} (args.zipIdx.map fun p=>(p.2,p.1)):=by
 refine⟨by simp;omega,rfl,?_⟩
 intro t v hv
 have key:∀(l:List Value) (k:Nat),lk ((l.zipIdx k).map fun p=>(p.2,p.1)) t=some v→k≤t∧l[t - k]?=some v:=by
  intro l
  induction l with
  |nil=>intro k e;simp[lk]at e
  |cons x l ih=>
   intro k e
   simp only[List.zipIdx_cons,al9,lk]at e
   cases hb:Nat.beq t k with
   |true=>
    have:=al6 hb
    subst this
    simp only[hb,cond_true,amm]at e
    subst e
    simp
   |false=>
    simp only[hb,cond_false]at e
    obtain⟨h1,h2⟩:=ih (k+1) e
    refine⟨by omega,?_⟩
    rw[show t - k=(t - (k+1))+1 by omega,List.getElem?_cons_succ]
    exact h2
 obtain⟨_,h2⟩:=key args 0 hv
 simp only[Nat.sub_zero]at h2
 obtain⟨hlt,rfl⟩:=List.getElem?_eq_some_iff.1 h2
 simp only[Array.getD,Array.size_append,List.size_toArray,Array.size_replicate]
 rw[dif_pos (by omega)]
 simp[Array.getElem_append,hlt]
section
variable {P:Program} {ops:Array Oper} {Q:Exit→Act→World→Prop} {K:Act→World→Prop} {a:Act} {w:World} {rest:List Oper}
theorem iD (m n:Int):(m==n)=decide (m=n):=rfl
theorem TY {o:Oper} {v:Value} {w':World} (hr:(execOp a.eval o).run P w= .ok (.value v) w') (k:K (a.put o.dst v) w'):o.wp P a w K Q:=by
 unfold Oper.wp;rw[hr];exact k
theorem aeF {o:Oper} {w':World} (hr:(execOp a.eval o).run P w= .ok .skip w') (k:K (a.put o.dst undef) w'):o.wp P a w K Q:=by
 unfold Oper.wp;rw[hr];exact k
theorem Fg {o:Oper} {f:FuncId} {args:Array Value} {w':World} (hr:(execOp a.eval o).run P w= .ok (.enter f args) w')
  (hc:Calls P f args w' fun e w''=>∃v,e= .returned v∧K (a.put o.dst v) w''):o.wp P a w K Q:=by
 unfold Oper.wp;rw[hr]
 exact hc.mono fun e w'' ⟨v,he,hk⟩=>by subst he;exact hk
section
variable {dst:Option Tmp} {ty:TypeId} {pos:String} {af:Array Edge} {g:Option (Nat×Bool)}
section
variable {t t2:TypeId} {x y:Operand} {kd:IntKind} {m n z:Int} {b:Bool}
end
abbrev S (l:List UInt8):Value:=.string ⟨l.toArray⟩
section
variable {t t2:TypeId} {x y:Operand} {l m:List UInt8}
theorem iq (l:List UInt8):ByteArray.toList ⟨l.toArray⟩=l:=by rw[ByteArray.toList_eq]
theorem dN (b:Builtin) (args:Array Operand) (ta:Array TypeId) (dst:Option Tmp) (ty:TypeId) (pos:String) (af:Array Edge) (g:Option (Nat×Bool)):
  (execOp a.eval ⟨dst,.call {callee:=.builtin b,args:=args,argTypes:=ta},ty,pos,af,g⟩).run P w=
   (builtin b ta ty (args.map fun|.const _=>true|_=>false) (args.map a.eval)).run P w:=by
 simp only[execOp,resolve,amf,Sem.run_pure,ame,invoke]
 rfl
end
def qH (P:Program) (t i:Nat):Option Nat:=
 match P.underlying t with
 |some (.struct fs)=>match fs[i]? with
  |some f=>match P.info? f.type with
   |some inf=>bif Nat.beq inf.size 0 then none else some f.offset
   |none=>none
  |none=>none
 |_=>none
def bH (P:Program) (t:Nat):Option Nat:=(P.info? t).map (·.size)
def fG (P:Program) (t:Nat):Option Bool:=match P.underlying t with|some (.struct _)|some (.array ..)=>some true|some _=>some false|none=>none
theorem run_sizeOf {t n:Nat} (h:bH P t=some n) (w:World):(sizeOf t:Sem Nat).run P w= .ok n w:=by
 unfold bH at h
 rcases hi:P.info? t with _|i
 ·simp[hi]at h
 ·simp only[hi,Option.map_some,amm]at h
  subst h
  simp[sizeOf,typeInfo,hi]
theorem run_isAgg {t:Nat} {b:Bool} (h:fG P t=some b) (w:World):(isAgg t:Sem Bool).run P w= .ok b w:=by
 unfold fG at h
 rcases hu:P.underlying t with _|d
 ·simp[hu]at h
 ·rw[hu]at h
  cases d<;>simp at h<;>subst h<;>simp[isAgg,run_underlying hu]
theorem bQ (b o n:Nat):Addr.add ⟨b,o,none⟩ n=⟨b,o+n,none⟩:=by
 unfold Addr.add
 split
 ·rename_i h;subst h;rfl
 ·rfl
theorem nR {t i n b o:Nat} {fs:Array Field} {f:Field} (ht:P.underlying t=some (.struct fs)) (hf:fs[i]?=some f) (h:qH P t i=some n):
  (fieldPlace ⟨b,o,none⟩ f:Sem Addr).run P w= .ok ⟨b,o+n,none⟩ w:=by
 unfold qH at h
 simp only[ht,hf]at h
 rcases hi:P.info? f.type with _|inf
 ·simp[hi]at h
 ·simp only[hi]at h
  cases hz:Nat.beq inf.size 0 with
  |true=>simp[hz]at h
  |false=>
   simp only[hz,cond_false,amm]at h
   subst h
   have hne:¬inf.size=0:=fun e=>by rw[e]at hz;simp at hz
   have hs:bH P f.type=some inf.size:=by simp[bH,hi]
   simp only[fieldPlace,amf,run_sizeOf hs,ame,if_neg hne,Sem.run_pure,bQ]
section
variable {x y:Operand}
def blk:Option Addr→Nat|some p=>p.block|none=>0
def lS:Option Addr→Nat|some p=>p.off|none=>0
def gn (M:dS) (b o:Nat):Option Value:=match M b with|some (.cells c _ _)=>c[o]?|_=>none
theorem _root_.Go.Eng.Holds.cellM {G:GS} {H:List aH} (h:Holds G w H) {b o:Nat} {v:Value} (hm:gn G.M b o=some v):w.cell? ⟨b,o,none⟩=some v:=by
 unfold gn at hm
 rcases hM:G.M b with _|ob
 ·simp[hM]at hm
 ·have:=h.mem b ob hM
  rw[hM]at hm
  cases ob<;>simp at hm
  simp[World.cell?,this,hm]
theorem run_loadCells (b o:Nat):∀(cs:List Value) (i:Nat) (acc:Array Value),(∀j v,cs[j]?=some v→w.cell? ⟨b,o+(i+j),none⟩=some v)→
  (loadCellsFrom ⟨b,o,none⟩ i cs.length acc).run P w= .ok (acc++cs.toArray) w
 |[],i,acc,_=>by simp[loadCellsFrom]
 |c::cs,i,acc,h=>by
  have h0:=h 0 c rfl
  simp only[Nat.add_zero]at h0
  have ih:=run_loadCells b o cs (i+1) (acc.push c) (fun j v hv=>by have:=h (j+1) v (by simpa using hv);rw[show i+1+j=i+(j+1) by omega];exact this)
  simp only[al3,loadCellsFrom,amf,bQ,load,Sem.run,h0,ame,ih]
  simp
def MRow (M:dS) (b o:Nat) (cs:List Value):Prop:=∀j v,cs[j]?=some v→gn M b (o+j)=some v
theorem HQ {G G':GS} (h:G.Le G') {b o:Nat} {v:Value} (hm:gn G.M b o=some v):gn G'.M b o=some v:=by
 unfold gn at hm ⊢
 rcases e:G.M b with _|ob
 ·simp[e]at hm
 ·rw[h.mem b ob e];rw[e]at hm;exact hm
theorem MRow.mono {G G':GS} (h:G.Le G') {b o:Nat} {cs:List Value} (hm:MRow G.M b o cs):MRow G'.M b o cs:=fun j v hv=>HQ h (hm j v hv)
theorem MRow.sub {M:dS} {b o:Nat} {cs ds:List Value} (h:MRow M b o cs) (i:Nat) (hd:(cs.drop i).take ds.length=ds):MRow M b (o+i) ds:=by
 intro j v hv
 rw[Nat.add_assoc]
 refine h (i+j) v ?_
 rw[←hd]at hv
 have hlt:j<ds.length:=by
  rcases Nat.lt_or_ge j ds.length with h1|h1
  ·exact h1
  ·rw[List.getElem?_take_eq_none h1]at hv;cases hv
 rw[amk hlt,List.getElem?_drop]at hv
 exact hv
def jA (P:Program) (t:Nat):Option (Array Value):=(P.info? t).bind fun i=>i.zero.map (·.cells)
theorem oE {t:Nat} {cs:Array Value} (h:jA P t=some cs) (w:World):∃z,(zeroValue t:Sem Value).run P w= .ok z w∧z.cells=cs:=by
 unfold jA at h
 rcases hi:P.info? t with _|i
 ·simp[hi]at h
 ·simp only[hi,Option.bind_some,amd]at h
  obtain⟨z,hz,rfl⟩:=h
  exact⟨z,by simp[zeroValue,typeInfo,hi,hz],rfl⟩
def ed (c:Array Value) (o:Nat):List Value→Array Value
 |[]=>c
 |v::r=>ed (c.setIfInBounds o v) (o+1) r
theorem gV:∀(vs:List Value) (c:Array Value) (o:Nat),(ed c o vs).size=c.size
 |[],_,_=>rfl
 |v::r,c,o=>by rw[ed,gV r];simp
theorem _root_.Go.Eng.Holds.setCell {G:GS} {F:List aH} {c0:aH} {j b:Nat} {c:Array Value} {T:TypeId} (h:Holds G w (c0::F)) (hj:c0[j]?=some (b,.cells c T (0,0))) (o:Nat) (v:Value):
  Holds G (w.setCell ⟨b,o,none⟩ v) (c0.set j (b,.cells (c.setIfInBounds o v) T (0,0))::F):=by
 obtain⟨hlt,hj'⟩:=List.getElem?_eq_some_iff.1 hj
 have hown:w.heap[b]?=some (.cells c T (0,0)):=h.own (b,.cells c T (0,0)) (by simp only[al8,amh];exact .inl (hj'▸List.getElem_mem hlt))
 have hkeys:(c0.set j (b,Obj.cells (c.setIfInBounds o v) T (0,0))).map (·.1)=c0.map (·.1):=by
  rw[List.map_set]
  refine List.ext_getElem? fun i=> ?_
  rw[List.getElem?_set]
  split
  ·rename_i e;subst e
   simp[hlt,hj']
  ·rfl
 have hself:(w.setCell ⟨b,o,none⟩ v).heap[b]?=some (.cells (c.setIfInBounds o v) T (0,0)):=by
  simp[World.setCell,Array.getElem?_modify,hown]
 refine h.turn rfl rfl rfl hkeys (fun k _ hk=>Below.heap_setCell _ _ _ _ ?_) (fun p hp=> ?_)
 ·intro e
  exact hk (e▸List.mem_map.2 ⟨(b,.cells c T (0,0)),hj'▸List.getElem_mem hlt,rfl⟩)
 ·rcases List.mem_or_eq_of_mem_set hp with hp|rfl
  ·by_cases e:p.1=b
   ·rw[e,hself]
    have hn:=h.nodup
    simp only[al8,amg]at hn
    have hn1:((c0.set j (b,Obj.cells (c.setIfInBounds o v) T (0,0))).map (·.1)).Nodup:=hkeys▸(List.nodup_append.1 hn).1
    have hx:=kS _ hn1 p (by assumption)
    have hy:=kS _ hn1 (b,Obj.cells (c.setIfInBounds o v) T (0,0)) (List.mem_iff_getElem?.2 ⟨j,by rw[List.getElem?_set];simp[hlt]⟩)
    rw[e]at hx
    simp only at hy
    rw[hx]at hy
    injection hy with hy
    rw[hy]
   ·rw[Below.heap_setCell _ _ _ _ e]
    exact h.own p (by simp only[al8,amh];exact .inl hp)
  ·exact hself
theorem jN:∀(vs:List Value) (c:Array Value) (o:Nat),o+vs.length≤c.size→(ed c o vs).toList=c.toList.take o++vs++c.toList.drop (o+vs.length)
 |[],c,o,_=>by simp[ed]
 |v::r,c,o,h=>by
  simp only[al3]at h
  have hlt:o<c.toList.length:=by simp;omega
  rw[ed,jN r _ _ (by simp;omega),Array.toList_setIfInBounds]
  have e1:(c.toList.set o v).take (o+1)=c.toList.take o++[v]:=by
   rw[List.take_add_one,List.take_set_of_le (amj _),List.getElem?_set_self hlt];rfl
  rw[e1,List.drop_set_of_lt (by omega)]
  simp only[al3,amb,List.singleton_append,ama]
  rw[show o+1+r.length=o+(r.length+1) by omega]
  rfl
def xR (P:Program) (f:Nat):Option (Bool×Bool):=(P.funcs[f]?).map fun fn=>(fn.name== "runtime.NumGoroutine",fn.body.isNone)
theorem pR {f:Nat} (h:xR P f=some (false,false)) (args:Array Value) (w:World):(callFunc f args).run P w= .ok (.enter f args) w:=by
 unfold xR at h
 rcases hf:P.funcs[f]? with _|fn
 ·simp[hf]at h
 ·simp only[hf,Option.map_some,amm,Prod.mk.injEq]at h
  have h1:fn.name≠ "runtime.NumGoroutine" :=by simpa using h.1
  have h2:fn.body≠none:=by intro e;rw[e]at h;simp at h
  simp[callFunc,hf,h1,h2]
end
end
end
def nI (D:Nat→Bool) (i:Nat):Nat→Bool:=fun j=>bif Nat.beq j i then true else D j
theorem JP (D:Nat→Bool) (i:Nat):nI D i i=true:=by simp[nI]
theorem ER (D:Nat→Bool) {i j:Nat} (h:j≠i):nI D i j=D j:=by
 have hb:Nat.beq j i=false:=by
  cases hb:Nat.beq j i with
  |false=>rfl
  |true=>exact absurd (al6 hb) h
 simp[nI,hb]
def zA (o:Oper):List Nat:=o.after.toList.filterMap fun e=>if Region.binds .any e then some e.on else none
structure Ready (l:List Oper) (D:Nat→Bool) (i:Nat):Prop where
 todo:D i=false
 done:∀o,l[i]?=some o→∀j∈zA o,D j=true
 closed:∀k o,l[k]?=some o→D k=true→∀j∈zA o,D j=true
def Dj (P:Program) (l:List Oper) (Q:Exit→Act→World→Prop) (J:(Nat→Bool)→Act→World→Prop) (i:Nat) (o:Oper):Prop:=
 ∀D a w,Ready l D i→J D a w→if Region.wanted o (yielded l.toArray a.tmps)=true then o.wp P a w (J (nI D i)) Q∨(o.asks P a w∧LetsOut Q) else J (nI D i) (a.put o.dst undef) w
def Steps (P:Program) (l:List Oper) (Q:Exit→Act→World→Prop) (J:(Nat→Bool)→Act→World→Prop):Nat→List Oper→Prop
 |_,[]=>True
 |i,o::r=>Dj P l Q J i o∧Steps P l Q J (i+1) r
section
variable {P:Program} {Q:Exit→Act→World→Prop} {a:Act} {w:World} {l:List Oper} {J:(Nat→Bool)→Act→World→Prop}
theorem Steps.at:∀(r:List Oper) (i:Nat),Steps P l Q J i r→∀k o,r[k]?=some o→Dj P l Q J (i+k) o
 |[],_,_,_,_,h=>by simp at h
 |o::r,i,hs,0,o',h=>by
  simp only[List.getElem?_cons_zero,amm]at h
  subst h
  exact hs.1
 |o::r,i,hs,k+1,o',h=>by
  have:=Steps.at r (i+1) hs.2 k o' (by simpa using h)
  rw[show i+(k+1)=i+1+k by omega];exact this
end
section
variable {P:Program} {ops:Array Oper} {Q:Exit→Act→World→Prop} {K:Act→World→Prop} {a:Act} {w:World} {fn:Func} {R:Ending→World→Prop}
theorem IY {N t u:Nat} {L:List (Nat×Value)} {v z:Value} (s:SF N a L) (hr:fn.results= #[.tmp t,.tmp u]) (hv:lk L t=some v) (hz:lk L u=some z) (h:R (.returned (.tuple #[v,z])) w):bodyPost P fn R .ret a w:=
 ⟨s.defers,_,by rw[results_tmp2 hr,s.at_ t v hv,s.at_ u z hz],h⟩
theorem enter {f:FuncId} {c:Code} {args:List Value} {N:Nat} {L:List (Nat×Value)} (hL:args.zipIdx.map (fun p=>(p.2,p.1))=L) (hf:P.funcs[f]?=some fn) (hb:fn.body=some c) (hN:fn.ntmps=N) (hl:Nat.ble args.length N=true)
  (h:∀a,SF N a L→c.wp P (bodyPost P fn R) a w):Calls P f args.toArray w R:=by
 subst hN
 subst hL
 refine calls_of_wp hf hb ?_
 refine h _ ?_
 have:=SF.enter fn.ntmps args (by simpa using Nat.le_of_ble_eq_true hl)
 simpa using this
end
theorem Ae {z:Int} (h1: -9223372036854775808≤z) (h2:z≤9223372036854775807):IntKind.i64.wrap z=z:=IntWalk.i64_in z ⟨h1,h2⟩
theorem Af {z:Int} (h1: -2147483648≤z) (h2:z≤2147483647):IntKind.i32.wrap z=z:=IntWalk.i32_in z ⟨h1,h2⟩
theorem Ey {z:Int} (h1:0≤z) (h2:z≤255):IntKind.u8.wrap z=z:=IntWalk.u8_in z ⟨h1,h2⟩
theorem Ad {z:Int} (h1:0≤z) (h2:z≤65535):IntKind.u16.wrap z=z:=IntWalk.u16_in z ⟨h1,h2⟩
theorem Ab {z:Int} (h1:0≤z) (h2:z≤4294967295):IntKind.u32.wrap z=z:=IntWalk.u32_in z ⟨h1,h2⟩
theorem Aa {z:Int} (h1:0≤z) (h2:z≤18446744073709551615):IntKind.u64.wrap z=z:=IntWalk.u64_in z ⟨h1,h2⟩
def Ret (G:GS) (F:List aH) (post:GS→Value→Prop):Ending→World→Prop:=
 fun e w'=>∃v G',e= .returned v∧G.Le G'∧Holds G' w' F∧post G' v
structure Row (E size:Nat) (ao:Option Addr) (n cap:Nat) (xs:List Value) (c:aH):Prop where
 len:xs.length=n*size
 form:(ao=none∧n=0∧cap=0∧c=[])∨∃g cur,ao=some ⟨g,0,none⟩∧c=[(g,.cells cur E (0,0))]∧n≤cap∧cap≤maxLen∧cur.size=cap*size∧cur.toList.take (n*size)=xs
theorem Row.nil (E size:Nat):Row E size none 0 0 [] []:=⟨by simp,.inl ⟨rfl,rfl,rfl,rfl⟩⟩
theorem Holds.regrow {G:GS} {w w':World} {F:List aH} {c:aH} {row:Option Nat} (h:Holds G w (c::F)) (hg:w.grownBy w' row) (hrow:∀g,row=some g→g∈c.map (·.1)) {g:Nat} {o:Obj}
  (hw:w'.heap[g]?=some o) (hgc:row=some g∨w.heap.size≤g):Holds G w' ([(g,o)]::F):=by
 have hF:=h.drop
 have hn:=h.nodup
 simp only[al8,amg]at hn
 have hd:=(List.nodup_append.1 hn).2.2
 have hkeep:∀b,b<w.heap.size→b∉c.map (·.1)→w'.heap[b]?=w.heap[b]?:=fun b hb hbc=>hg.block b hb (fun e=>hbc (hrow b e.symm))
 have hmem:∀b o',G.M b=some o'→b∉c.map (·.1):=by
  intro b o' hb hm
  obtain⟨p,hp,rfl⟩:=List.mem_map.1 hm
  have:=h.apart p (by simp only[al8,amh];exact .inl hp)
  rw[this]at hb;cases hb
 refine⟨hg.os.trans h.os,hg.tape.trans h.tape,hg.output.trans h.output,fun b o' hb=> ?_,fun p hp=> ?_,?_,fun p hp=> ?_⟩
 ·have:=h.mem b o' hb
  rw[hkeep b (bn this) (hmem b o' hb)];exact this
 ·simp only[al8,ama,amc,List.mem_cons]at hp
  rcases hp with rfl|hp
  ·exact hw
  ·have:=hF.own p hp
   rw[hkeep p.1 (bn this) (fun hm=>hd _ hm _ (List.mem_map_of_mem hp) rfl)];exact this
 ·simp only[al8,ama,amc,al9,List.nodup_cons]
  refine⟨fun hm=> ?_,hF.nodup⟩
  obtain⟨p,hp,e⟩:=List.mem_map.1 hm
  rcases hgc with hr|hr
  ·exact hd _ (hrow g hr) _ (List.mem_map_of_mem hp) e.symm
  ·have:=bn (hF.own p hp);omega
 ·simp only[al8,ama,amc,List.mem_cons]at hp
  rcases hp with rfl|hp
  ·rcases e:G.M g with _|o'
   ·rfl
   ·rcases hgc with hr|hr
    ·exact absurd (hrow g hr) (hmem g o' e)
    ·have:=bn (h.mem g o' e);omega
  ·exact hF.apart p hp
structure Fact where
 p:GS→Value→Prop
 mono:∀G G' v,G.Le G'→p G v→p G' v
def Fact.eq (u:Value):Fact:=⟨fun _ v=>v=u,fun _ _ _ _ h=>h⟩
def Fact.any:Fact:=⟨fun _ _=>True,fun _ _ _ _ h=>h⟩
def Fact.imp (b:Bool) (f:Fact):Fact:=⟨fun G v=>b=true→f.p G v,fun G G' v hG h hb=>f.mono G G' v hG (h hb)⟩
abbrev vK:=List (Option Nat×Fact)
def Phi (X:vK) (D:Nat→Bool) (a:Act) (G:GS):Prop:=∀i d f,X[i]?=some (some d,f)→D i=true→f.p G (a.tmps.getD d undef)
abbrev Do:=List (Nat×Nat×Value)
def Pre (O:Do) (D:Nat→Bool) (a:Act):Prop:=∀(i k t:Nat) (v:Value),O[i]?=some (k,t,v)→D k=false→a.tmps.getD t undef=v
structure JR (N:Nat) (L0:List (Nat×Value)) (X:vK) (O:Do) (HR:(Nat→Bool)→Act→GS→List aH→Prop) (G0:GS) (D:Nat→Bool) (a:Act) (w:World) (G:GS) (H:List aH):Prop where
 le:G0.Le G
 hr:HR D a G H
 holds:Holds G w H
 sf:SF N a L0
 phi:Phi X D a G
 pre:Pre O D a
def J (N:Nat) (L0:List (Nat×Value)) (X:vK) (O:Do) (HR:(Nat→Bool)→Act→GS→List aH→Prop) (G0:GS):(Nat→Bool)→Act→World→Prop:=
 fun D a w=>∃G H,JR N L0 X O HR G0 D a w G H
def Fact.ex (f:Nat→Value):Fact:=⟨fun _ v=>∃b,v=f b,fun _ _ _ _ h=>h⟩
def TX (N:Nat) (L0:List (Nat×Value)) (X:vK) (O:Do):Bool:=
 let ds:=X.map (·.1)
 let idx:=ds.zipIdx
 idx.all (fun p=>match p.1 with
  |none=>true
  |some d=>Nat.blt d N&&(L0.all fun q=> !Nat.beq q.1 d)&&(idx.all fun q=>Nat.beq q.2 p.2||(match q.1 with|some e=> !Nat.beq e d|none=>true))&&(O.all fun q=>Nat.beq q.1 p.2|| !Nat.beq q.2.1 d))
section
variable {P:Program} {Q:Exit→Act→World→Prop} {l:List Oper} {N:Nat} {L0:List (Nat×Value)} {X:vK} {O:Do} {HR:(Nat→Bool)→Act→GS→List aH→Prop} {G0:GS} {a:Act} {w:World}
theorem getD_put {a:Act} {d t:Nat} {v:Value} (h:t≠d):(a.put (some d) v).tmps.getD t undef=a.tmps.getD t undef:=by
 show(a.tmps.setIfInBounds d v).getD t undef=_
 rw[Array.getD_eq_getD_getElem?,Array.getD_eq_getD_getElem?,Array.getElem?_setIfInBounds_ne (fun e=>h e.symm)]
theorem ze {a:Act} {d:Nat} {v:Value} (h:d<a.tmps.size):(a.put (some d) v).tmps.getD d undef=v:=by
 simp[Act.put,Array.getD,h]
theorem lT {i j:Nat} (h:(!Nat.beq i j)=true):i≠j:=by
 rintro rfl
 simp at h
theorem aeC (h:TX N L0 X O=true) {i d:Nat} {f:Fact} (hi:X[i]?=some (some d,f)):
  d<N∧(∀q∈L0,q.1≠d)∧(∀j e f',X[j]?=some (some e,f')→j≠i→e≠d)∧(∀(j k t:Nat) v,O[j]?=some (k,t,v)→k≠i→t≠d):=by
 unfold TX at h
 have hm:(some d,i)∈(X.map (·.1)).zipIdx:=by
  rw[List.mem_iff_getElem?]
  exact⟨i,by simp[hi]⟩
 have h1:=List.all_eq_true.1 h _ hm
 simp only[aml]at h1
 obtain⟨⟨⟨h1,h2⟩,h3⟩,h4⟩:=h1
 refine⟨by simpa[amq] using h1,fun q hq=>lT (List.all_eq_true.1 h2 q hq),fun j e f' hj hne=> ?_,fun j k t v hj hne=> ?_⟩
 ·have hm2:(some e,j)∈(X.map (·.1)).zipIdx:=by
   rw[List.mem_iff_getElem?]
   exact⟨j,by simp[hj]⟩
  have:=List.all_eq_true.1 h3 _ hm2
  simp only[Bool.or_eq_true]at this
  rcases this with h|h
  ·exact absurd (al6 h) hne
  ·exact lT h
 ·have:=List.all_eq_true.1 h4 (k,t,v) (List.mem_iff_getElem?.2 ⟨j,hj⟩)
  simp only[Bool.or_eq_true]at this
  rcases this with h|h
  ·exact absurd (al6 h) hne
  ·exact lT h
theorem SF.put_far {a:Act} {d:Nat} {v:Value} (s:SF N a L0) (h:∀q∈L0,q.1≠d):SF N (a.put (some d) v) L0:=by
 refine⟨by simpa[Act.put] using s.size,s.defers,fun t u hu=> ?_⟩
 have hne:t≠d:=by
  have:∀K:List (Nat×Value),lk K t=some u→∃q∈K,q.1=t:=by
   intro K
   induction K with
   |nil=>intro e;simp[lk]at e
   |cons p K ih=>
    intro e
    cases hb:Nat.beq t p.1 with
    |true=>exact⟨p,by simp,(al6 hb).symm⟩
    |false=>
     simp only[lk,hb,cond_false]at e
     obtain⟨q,hq,e1⟩:=ih e
     exact⟨q,by simp[hq],e1⟩
  obtain⟨q,hq,rfl⟩:=this L0 hu
  exact h q hq
 rw[getD_put hne]
 exact s.at_ t u hu
theorem JR.did {D:Nat→Bool} {G G':GS} {H H':List aH} {w':World} {i d:Nat} {f:Fact} {v:Value} (j:JR N L0 X O HR G0 D a w G H) (hok:TX N L0 X O=true) (hi:X[i]?=some (some d,f))
  (hG:G.Le G') (hH:Holds G' w' H') (hHR:HR (nI D i) (a.put (some d) v) G' H') (hv:f.p G' v):J N L0 X O HR G0 (nI D i) (a.put (some d) v) w':=by
 obtain⟨h1,h2,h3,h4⟩:=aeC hok hi
 refine⟨G',H',j.le.trans hG,hHR,hH,j.sf.put_far h2,fun k e f' hk hD=> ?_,fun k o t u hk hD=> ?_⟩
 ·by_cases e0:k=i
  ·subst e0
   rw[hi]at hk
   injection hk with hk
   injection hk with hk1 hk2
   injection hk1 with hk1
   subst hk1;subst hk2
   rw[ze (by rw[j.sf.size];exact h1)]
   exact hv
  ·rw[ER _ e0]at hD
   rw[getD_put (h3 k e f' hk e0)]
   exact f'.mono G G' _ hG (j.phi k e f' hk hD)
 ·by_cases e0:o=i
  ·subst e0;rw[JP]at hD;cases hD
  ·rw[ER _ e0]at hD
   rw[getD_put (h4 k o t u hk e0)]
   exact j.pre k o t u hk hD
theorem JR.skip {D:Nat→Bool} {G:GS} {H:List aH} {i d:Nat} {b:Bool} {f:Fact} (j:JR N L0 X O HR G0 D a w G H) (hok:TX N L0 X O=true) (hi:X[i]?=some (some d,Fact.imp b f)) (hb:b=false)
  (hHR:HR (nI D i) (a.put (some d) undef) G H):J N L0 X O HR G0 (nI D i) (a.put (some d) undef) w:=
 j.did hok hi (GS.Le.refl G) j.holds hHR (fun h=>by rw[hb]at h;cases h)
theorem JR.old {D:Nat→Bool} {G:GS} {H:List aH} (j:JR N L0 X O HR G0 D a w G H) (i:Nat) {k t:Nat} {v:Value} (hi:O[i]?=some (k,t,v)) (hD:D k=false):a.tmps.getD t undef=v:=j.pre i k t v hi hD
theorem Ready.was {D:Nat→Bool} {i:Nat} (h:Ready l D i) {o:Oper} (ho:l[i]?=some o) (j:Nat) (hj:(zA o).contains j=true):D j=true:=h.done o ho j (by simpa using hj)
theorem Ready.not {D:Nat→Bool} {i:Nat} (h:Ready l D i) {k j:Nat} {o:Oper} (hk:l[k]?=some o) (hj:(zA o).contains j=true) (hD:D j=false):D k=false:=by
 cases e:D k with
 |false=>rfl
 |true=>rw[h.closed k o hk e j (by simpa using hj)]at hD;cases hD
theorem Steps.of:∀(r:List Oper) (i:Nat) {J:(Nat→Bool)→Act→World→Prop},(∀k o,r[k]?=some o→Dj P l Q J (i+k) o)→Steps P l Q J i r
 |[],_,_,_=>trivial
 |o::r,i,J,h=>⟨h 0 o rfl,Steps.of r (i+1) fun k o' hk=>by have:=h (k+1) o' (by simpa using hk);rwa[show i+(k+1)=i+1+k by omega]at this⟩
end
end Go.Eng
namespace Go.Eng
open Go Go.RowKit
section
variable {P:Program} {ops:Array Oper} {Q:Exit→Act→World→Prop} {a:Act} {w:World} {rest:List Oper} {N d:Nat} {L:List (Nat×Value)} {G:GS} {H:List aH} {ty:TypeId} {pos:String} {af:Array Edge}
end
end Go.Eng
namespace Go.Eng
open Go Go.RowKit
end Go.Eng
namespace Go.Eng
open Go Go.RowKit
end Go.Eng
namespace Go.Eng
open Go Go.RowKit
section
variable {P:Program} {ops:Array Oper} {Q:Exit→Act→World→Prop} {K:Act→World→Prop} {a:Act} {w:World} {rest:List Oper} {N d:Nat} {L:List (Nat×Value)} {G:GS} {H:List aH}
 {dst:Option Tmp} {ty:TypeId} {pos:String} {af:Array Edge} {g:Option (Nat×Bool)} {x y:Operand}
section
variable {t t2:TypeId} {kd:IntKind} {m n z:Int}
end
theorem Holds.ext {w':World} (h:Holds G w H) (hb:Below w.heap.size w w'):Holds G w' H:=
 ⟨hb.os.trans h.os,hb.tape.trans h.tape,hb.output.trans h.output,fun b o hm=>by have:=h.mem b o hm;rw[hb.block b (bn this)];exact this,
  fun p hp=>by have:=h.own p hp;rw[hb.block p.1 (bn this)];exact this,h.nodup,h.apart⟩
theorem Ret.of {f:Nat} {vs:Array Value} {v:Value} {F:List aH} {post:GS→Value→Prop} (h:Holds G w F) (hc:Calls P f vs w fun e w'=>e= .returned v∧Below w.heap.size w w') (hp:post G v):Calls P f vs w (Ret G F post):=
 hc.mono fun _ _ ⟨he,hb⟩=>⟨v,G,he,GS.Le.refl G,h.ext hb,hp⟩
def GVar (P:Program) (name:String) (cs:Array Value) (G:GS):Prop:=∃g T fz,P.globalNamed name=some g∧G.M g=some (.cells cs T fz)
theorem GVar.mono {name:String} {cs:Array Value} {G':GS} (h:GVar P name cs G) (hG:G.Le G'):GVar P name cs G':=by
 obtain⟨g,T,fz,h1,h2⟩:=h
 exact⟨g,T,fz,h1,hG.mem _ _ h2⟩
structure RdF {α:Type} (enc:α→List Value) (size:Nat) (M:dS) (ao:Option Addr) (cap:Nat) (l:List α):Prop where
 le:l.length≤cap
 cap:cap≤9223372036854775807
 addr:0<l.length→ao=some ⟨blk ao,lS ao,none⟩
 row:∀i x,l[i]?=some x→MRow M (blk ao) (lS ao+i*size) (enc x)
theorem RdF.mono {α:Type} {enc:α→List Value} {size cap:Nat} {G':GS} {ao:Option Addr} {l:List α} (h:RdF enc size G.M ao cap l) (hG:G.Le G'):RdF enc size G'.M ao cap l:=
 ⟨h.le,h.cap,h.addr,fun i x hx=>(h.row i x hx).mono hG⟩
theorem RdF.nil {α:Type} (enc:α→List Value) (size:Nat) (M:dS) (ao:Option Addr):RdF enc size M ao 0 ([]:List α):=
 ⟨by simp,by omega,fun h=>by simp at h,fun i x h=>by simp at h⟩
theorem FV {α:Type} (enc:α→List Value) (size:Nat) (he:∀x,(enc x).length=size):∀(l:List α) (i:Nat) (x:α),l[i]?=some x→∀j v,(enc x)[j]?=some v→(l.flatMap enc)[i*size+j]?=some v
 |[],i,x,h=>by simp at h
 |y::l,0,x,h=>by
  simp only[List.getElem?_cons_zero,amm]at h
  subst h
  intro j v hv
  simp only[Nat.zero_mul,Nat.zero_add,List.flatMap_cons]
  rw[List.getElem?_append_left (List.getElem?_eq_some_iff.1 hv).1]
  exact hv
 |y::l,i+1,x,h=>by
  intro j v hv
  have:=FV enc size he l i x (by simpa using h) j v hv
  simp only[List.flatMap_cons]
  rw[List.getElem?_append_right (by rw[he];rw[Nat.add_mul];omega),he,show(i+1)*size+j - size=i*size+j by rw[Nat.add_mul];omega]
  exact this
theorem Row.toG {α:Type} {enc:α→List Value} {E size n cap:Nat} {ao:Option Addr} {l:List α} {c:aH} (he:∀x,(enc x).length=size) (r:Row E size ao n cap (l.flatMap enc) c) (hn:l.length=n) (h:Holds G w (c::H)):
  ∃G',G.Le G'∧Holds G' w H∧RdF enc size G'.M ao cap l:=by
 obtain⟨h1,h2,h3⟩:=h.toG
 refine⟨_,h1,h2,?_⟩
 subst hn
 rcases r.form with⟨rfl,h4,rfl,rfl⟩|⟨g,cur,rfl,rfl,h4,h5,h6,h7⟩
 ·have:l=[]:=List.eq_nil_of_length_eq_zero h4
  subst this
  exact RdF.nil _ _ _ _
 ·refine⟨h4,h5,fun _=>rfl,fun i x hx j v hv=> ?_⟩
  have hM:=h3 (g,.cells cur E (0,0)) (by simp)
  simp only at hM
  simp only[blk,lS,gn,hM,Nat.zero_add]
  have hf:=FV enc size he l i x hx j v hv
  rw[←h7]at hf
  have hlt:i*size+j<l.length*size:=by
   rcases Nat.lt_or_ge (i*size+j) (l.length*size) with h8|h8
   ·exact h8
   ·rw[List.getElem?_take_eq_none h8]at hf;cases hf
  rw[amk hlt]at hf
  simpa using hf
end
end Go.Eng
namespace Go.Eng
open Go Go.RowKit
theorem Holds.nil {G:GS} {w:World} {H:List aH} (h:Holds G w H):Holds G w ([]::H):=h.perm (by simp)
abbrev encS (l:List UInt8):List Value:=[S l]
section
variable {P:Program} {ops:Array Oper} {Q:Exit→Act→World→Prop} {a:Act} {w:World} {rest:List Oper} {N d:Nat} {L:List (Nat×Value)} {G:GS} {F:List aH} {ty:TypeId} {pos:String} {af:Array Edge}
def fS (P:Program) (E size bytes:Nat):Bool:=match P.info? E with
 |some i=>match i.zero with
  |some z=>Nat.beq i.size size&&Nat.beq z.cells.size size&&Nat.beq i.bytes bytes&&Nat.blt 0 size
  |none=>false
 |none=>false
theorem fH {E size bytes:Nat} (h:fS P E size bytes=true):∃i z,P.info? E=some i∧i.zero=some z∧i.size=size∧z.cells.size=size∧i.bytes=bytes∧0<size:=by
 unfold fS at h
 rcases hi:P.info? E with _|i
 ·simp[hi]at h
 ·rcases hz:i.zero with _|z
  ·simp[hi,hz]at h
  ·simp only[hi,hz,aml,amq]at h
   exact⟨i,z,rfl,hz,al6 h.1.1.1,al6 h.1.1.2,al6 h.1.2,h.2⟩
end
end Go.Eng
namespace Go.Eng
open Go Go.RowKit
section
variable {P:Program} {Q:Exit→Act→World→Prop} {K:Act→World→Prop} {a:Act} {w:World} {dst:Option Tmp} {ty:TypeId} {pos:String} {af:Array Edge} {g:Option (Nat×Bool)} {x y:Operand} {kd:IntKind} {m n z:Int}
end
end Go.Eng
namespace Go.Eng
open Go Go.RowKit
section
variable {P:Program} {Q:Exit→Act→World→Prop} {K:Act→World→Prop} {a:Act} {w:World} {dst:Option Tmp} {ty:TypeId} {pos:String} {af:Array Edge} {g:Option (Nat×Bool)} {x y:Operand}
end
end Go.Eng
namespace Go.Eng
open Go Go.RowKit Go.Lib
abbrev u8 (x:UInt8):Value:=.int .u8 x.toNat
def BuildC (T b:Nat) (l:List UInt8) (c:aH):Prop:=
 ∃p ao cap cr,(p= .pointer none∨p= .pointer (some ⟨b,0,none⟩))∧Row 5 1 ao l.length cap (l.map u8) cr∧(l=[]→ao=none)∧c=(b,.cells #[p,.slice ao l.length cap] T (0,0))::cr
theorem BuildC.new (T b:Nat):BuildC T b [] [(b,.cells #[.pointer none,.slice none 0 0] T (0,0))]:=
 ⟨_,none,0,[],.inl rfl,Row.nil 5 1,fun _=>rfl,rfl⟩
theorem Holds.split {G:GS} {w:World} {x:Nat×Obj} {c:aH} {F:List aH} (h:Holds G w ((x::c)::F)):Holds G w ([x]::c::F):=h.perm (by simp)
section
variable {P:Program} {ops:Array Oper} {Q:Exit→Act→World→Prop} {K:Act→World→Prop} {a:Act} {w:World} {rest:List Oper} {N d:Nat} {L:List (Nat×Value)} {G:GS} {F:List aH}
 {dst:Option Tmp} {ty:TypeId} {pos:String} {af:Array Edge} {g:Option (Nat×Bool)} {x y:Operand}
end
end Go.Eng
namespace Go.Eng
open Go Go.RowKit Go.Lib
section
variable {P:Program} {ops:Array Oper} {Q:Exit→Act→World→Prop} {K:Act→World→Prop} {a:Act} {w:World} {rest:List Oper} {N d:Nat} {L:List (Nat×Value)} {G:GS} {F:List aH}
 {dst:Option Tmp} {ty:TypeId} {pos:String} {af:Array Edge} {g:Option (Nat×Bool)} {x y:Operand}
end
end Go.Eng
namespace Go.Eng
open Go Go.RowKit Go.Lib
theorem Holds.frozen {G:GS} {w:World} {c:aH} {F:List aH} (h:Holds G w (c::F)) {b n:Nat} (hb:b∈c.map (·.1)):Holds G (w.freeze ⟨b,0,none⟩ n) F:=by
 have hf:=h.drop
 have hn:=h.nodup
 simp only[al8,amg]at hn
 have hd:=(List.nodup_append.1 hn).2.2
 have hk:∀k,k≠b→(w.freeze ⟨b,0,none⟩ n).heap[k]?=w.heap[k]?:=by
  intro k hk
  unfold World.freeze
  split
  ·rfl
  ·simp only[Array.getElem?_modify]
   rw[if_neg (fun e=>hk e.symm)]
 have hs:(w.freeze ⟨b,0,none⟩ n).os=w.os∧(w.freeze ⟨b,0,none⟩ n).tape=w.tape∧(w.freeze ⟨b,0,none⟩ n).output=w.output:=by
  unfold World.freeze
  split<;>exact⟨rfl,rfl,rfl⟩
 refine⟨hs.1.trans h.os,hs.2.1.trans h.tape,hs.2.2.trans h.output,fun k o hm=> ?_,fun p hp=> ?_,hf.nodup,hf.apart⟩
 ·rw[hk k]
  ·exact h.mem k o hm
  ·rintro rfl
   obtain⟨q,hq,rfl⟩:=List.mem_map.1 hb
   have:=h.apart q (by simp only[al8,amh];exact .inl hq)
   rw[this]at hm;cases hm
 ·rw[hk p.1]
  ·exact hf.own p hp
  ·intro e
   exact hd b hb _ (List.mem_map_of_mem hp) e.symm
section
variable {P:Program} {Q:Exit→Act→World→Prop} {K:Act→World→Prop} {a:Act} {w:World} {G:GS} {F:List aH}
 {dst:Option Tmp} {ty:TypeId} {pos:String} {af:Array Edge} {g:Option (Nat×Bool)} {x y:Operand}
end
end Go.Eng
namespace Go.Eng
open Go Go.RowKit
end Go.Eng
namespace Go.Eng
open Go Go.RowKit
structure al0 (P:Program) (kt:TypeId) {κ:Type} [DecidableEq κ] (ok:κ→Prop) (enc:κ→Value):Prop where
 check:∀k,ok k→∀(e:Bool) (w:World),(Instr.checkKey e 10000 kt (enc k)).run P w= .ok () w
 kind:∃d,P.underlying kt=some d∧((∀k k',ok k→ok k'→Instr.sameNow d (enc k) (enc k')=some (decide (k=k')))∨
  ((∀k k',ok k→ok k'→Instr.sameNow d (enc k) (enc k')=none)∧∀k k',ok k→ok k'→∀w,(Op.equal kt (enc k) (enc k')).run P w= .ok (decide (k=k')) w))
 bits:∀k,ok k→Instr.sameBits 10000 (enc k) (enc k)=true
abbrev AMap (κ:Type):=List (κ×Value)
def AMap.at_ {κ:Type} [DecidableEq κ] (m:AMap κ) (k:κ):Option Value:=match m with
 |[]=>none
 |p::m=>if k=p.1 then some p.2 else AMap.at_ m k
def AMap.put {κ:Type} [DecidableEq κ] (m:AMap κ) (k:κ) (v:Value):AMap κ:=match m with
 |[]=>[(k,v)]
 |p::m=>if k=p.1 then (k,v)::m else p::AMap.put m k v
structure alX {κ:Type} (ok:κ→Prop) (enc:κ→Value) (m:AMap κ) (es:Array MapEntry):Prop where
 eH:es.toList.map (fun e=>(e.key,e.val))=m.map (fun p=>(enc p.1,p.2))
 keys:∀p∈m,ok p.1
def MapC {κ:Type} (ok:κ→Prop) (enc:κ→Value) (m:AMap κ) (b:Nat) (c:aH):Prop:=∃es clock,c=[(b,.map es clock)]∧alX ok enc m es
section
variable {P:Program} {Q:Exit→Act→World→Prop} {K:Act→World→Prop} {a:Act} {w:World} {dst:Option Tmp} {ty:TypeId} {pos:String} {af:Array Edge} {g:Option (Nat×Bool)} {x y z:Operand} {G:GS} {F H:List aH}
variable {κ:Type} [DecidableEq κ] {okk:κ→Prop} {enc:κ→Value} {kt:TypeId} {m:AMap κ}
omit [DecidableEq κ] in
theorem MapC.new (ok:κ→Prop) (enc:κ→Value) (b:Nat):MapC ok enc [] b [(b,.map #[] 0)]:=⟨#[],0,rfl,by simp,by simp⟩
end
def aj:List (Option Bool)→Option Bool
 |[]=>some true
 |[x]=>x
 |x::r=>match x,aj r with
  |some a,some b=>some (a&&b)
  |_,_=>none
section
variable {P:Program} {w:World}
end
end Go.Eng
namespace Go.Eng
open Go Go.RowKit
section
variable {P:Program} {ops:Array Oper} {Q:Exit→Act→World→Prop} {K:Act→World→Prop} {a:Act} {w:World} {rest:List Oper} {dst:Option Tmp} {ty:TypeId} {pos:String} {af:Array Edge} {g:Option (Nat×Bool)} {x y z:Operand} {G:GS} {F H:List aH} {N:Nat} {L:List (Nat×Value)} {d:Nat}
theorem Row.addr {E size n cap:Nat} {ao:Option Addr} {xs:List Value} {c:aH} (r:Row E size ao n cap xs c) (h:0<n):ao=some ⟨blk ao,lS ao,none⟩:=by
 rcases r.form with⟨_,h2,_,_⟩|⟨g,cur,rfl,_⟩
 ·omega
 ·rfl
end
abbrev I64 (n:Int):Prop:= -9223372036854775808≤n∧n≤9223372036854775807
abbrev U8 (n:Int):Prop:=0≤n∧n≤255
abbrev U16 (n:Int):Prop:=0≤n∧n≤65535
abbrev U32 (n:Int):Prop:=0≤n∧n≤4294967295
structure Proc where
 node:Int
 life:Int
deriving DecidableEq
structure Step where
 group:Int
 index:Int
deriving DecidableEq
structure ID where
 client:Proc
 seq:Int
 depth:Int
 p0:Step
 p1:Step
 p2:Step
deriving DecidableEq
structure Fault where
 kind:Int
 id:ID
 group:Int
 at_:Int
abbrev Proc.ok (p:Proc):Prop:=U8 p.node∧U16 p.life
abbrev Step.ok (p:Step):Prop:=U8 p.group∧U8 p.index
abbrev ID.ok (d:ID):Prop:=d.client.ok∧U32 d.seq∧U8 d.depth∧d.p0.ok∧d.p1.ok∧d.p2.ok
abbrev Fault.ok (f:Fault):Prop:=I64 f.kind∧f.id.ok∧U8 f.group∧I64 f.at_
end Go.Eng
namespace Go.Eng
open Go Go.RowKit
end Go.Eng
namespace Go.Eng
open Go Go.RowKit
theorem aap (a:Addr) (i j:Nat):(a.add i).add j=a.add (i+j):=by
 unfold Addr.add
 by_cases hi:i=0<;>by_cases hj:j=0<;>simp[hi,hj,Nat.add_assoc]
theorem FG {α:Type} {p:Nat→α→Prop}:∀n,(∀i,i<n→∃x,p i x)→∃l:List α,l.length=n∧∀i x,l[i]?=some x→p i x
 |0,_=>⟨[],rfl,fun i x h=>by simp at h⟩
 |n+1,h=>by
  obtain⟨l,h1,h2⟩:=FG n fun i hi=>h i (by omega)
  obtain⟨x,hx⟩:=h n (by omega)
  refine⟨l++[x],by simp[h1],fun i y hy=> ?_⟩
  rcases Nat.lt_or_ge i n with hi|hi
  ·rw[List.getElem?_append_left (by omega)]at hy
   exact h2 i y hy
  ·rw[List.getElem?_append_right (by omega)]at hy
   have:i - l.length=0:=by
    rcases Nat.eq_zero_or_pos (i - l.length) with h0|h0
    ·exact h0
    ·rw[List.getElem?_eq_none (by simp;omega)]at hy;cases hy
   rw[this]at hy
   simp only[List.getElem?_cons_zero,amm]at hy
   subst hy
   have:i=n:=by omega
   subst this
   exact hx
def lN (P:Program) (L:TypeId→Option (List TypeId)):List (TypeId×Nat)→Nat→Option (List TypeId)
 |[],_=>some []
 |(t,o)::r,off=>bif Nat.beq o off then (L t).bind fun a=>bif Nat.beq a.length (P.cellsOf t) then (lN P L r (off+a.length)).map (a++ ·) else none else none
def jL (P:Program):Nat→TypeId→Option (List TypeId)
 |0,_=>none
 |n+1,t=>match P.underlying t with
  |some (.struct fs)=>(lN P (jL P n) (fs.toList.map fun f=>(f.type,f.offset)) 0).bind fun ts=>bif Nat.beq ts.length (P.cellsOf t) then some ts else none
  |some (.array m e)=>(lN P (jL P n) ((List.range m).map fun i=>(e,i*P.cellsOf e)) 0).bind fun ts=>bif Nat.beq ts.length (P.cellsOf t) then some ts else none
  |some _=>some [t]
  |none=>none
section
variable {H:Type} {enc:TypeId×Value→H} {P:Program} {w:World} {base:Nat} {spare:Nat→Bool} {held:Bool}
theorem oK {n m:Nat} {cs:List Value} (ih:∀t ts,jL P n t=some ts→∀cs x,DataW.trod enc P w base spare held m t cs=some x→cs.length=ts.length∧∀(j:Nat) (u:TypeId) (c:Value),ts[j]?=some u→cs[j]?=some c→∃k y,DataW.trod enc P w base spare held k u [c]=some y):
  ∀(l:List (TypeId×Nat)) (off:Nat) (ts:List TypeId),lN P (jL P n) l off=some ts→(∀p∈l,∃x,DataW.trod enc P w base spare held m p.1 ((cs.drop p.2).take (P.cellsOf p.1))=some x)→
   ∀(j:Nat) (u:TypeId) (c:Value),ts[j]?=some u→cs[off+j]?=some c→∃k y,DataW.trod enc P w base spare held k u [c]=some y
 |[],off,ts,h,_,j,u,c,hu,_=>by
  simp only[lN,amm]at h
  subst h;simp at hu
 |(t,o)::r,off,ts,h,hall,j,u,c,hu,hc=>by
  simp only[lN]at h
  cases ho:Nat.beq o off with
  |false=>simp[ho]at h
  |true=>
   have ho:=al6 ho
   subst ho
   rcases hL:jL P n t with _|a
   ·simp[hL]at h
   ·cases hl:Nat.beq a.length (P.cellsOf t) with
    |false=>simp[hL,hl]at h
    |true=>
     rcases hr:lN P (jL P n) r (o+a.length) with _|b
     ·simp[hL,hl,hr]at h
     ·simp only[Nat.beq_refl,cond_true,hL,Option.bind_some,hl,hr,Option.map_some,amm]at h
      have hl:=al6 hl
      subst h
      rcases Nat.lt_or_ge j a.length with hj|hj
      ·rw[List.getElem?_append_left hj]at hu
       obtain⟨x,hx⟩:=hall (t,o) (by simp)
       refine(ih t a hL _ x hx).2 j u c hu ?_
       rw[amk (by rw[←hl];exact hj),List.getElem?_drop]
       exact hc
      ·rw[List.getElem?_append_right hj]at hu
       refine oK ih r (o+a.length) b hr (fun p hp=>hall p (by simp[hp])) (j - a.length) u c hu ?_
       rw[show o+a.length+(j - a.length)=o+j by omega]
       exact hc
theorem If:∀(n:Nat) (t:TypeId) (ts:List TypeId),jL P n t=some ts→∀(m:Nat) (cs:List Value) x,DataW.trod enc P w base spare held m t cs=some x→
  cs.length=ts.length∧∀(j:Nat) (u:TypeId) (c:Value),ts[j]?=some u→cs[j]?=some c→∃k y,DataW.trod enc P w base spare held k u [c]=some y:=by
 intro n
 induction n with
 |zero=>intro t ts h;simp[jL]at h
 |succ n ih=>
  intro t ts h m cs x hx
  unfold jL at h
  split at h
  ·rename_i fs hu
   obtain⟨ts',hp,hb⟩:=Option.bind_eq_some_iff.1 h
   cases hl:Nat.beq ts'.length (P.cellsOf t) with
   |false=>simp[hl]at hb
   |true=>
    simp only[hl,cond_true,amm]at hb
    subst hb
    have hl:=al6 hl
    cases m with
    |zero=>simp[DataW.trod]at hx
    |succ m=>
     simp only[DataW.trod,hu]at hx
     split at hx
     ·rename_i hlen
      obtain⟨xs,hm,_⟩:=amd.1 hx
      refine⟨by omega,fun j u c hju hc=>oK (cs:=cs) (n:=n) (m:=m) (fun t ts h cs x hx=>ih t ts h m cs x hx) _ 0 _ hp (fun p hp=> ?_) j u c hju (by simpa using hc)⟩
      obtain⟨f,hf,rfl⟩:=List.mem_map.1 hp
      obtain⟨i,hi⟩:=List.mem_iff_getElem?.1 hf
      obtain⟨b,_,hb⟩:=Lib.mapM_at hm i f hi
      exact⟨b,hb⟩
     ·cases hx
  ·rename_i k e hu
   obtain⟨ts',hp,hb⟩:=Option.bind_eq_some_iff.1 h
   cases hl:Nat.beq ts'.length (P.cellsOf t) with
   |false=>simp[hl]at hb
   |true=>
    simp only[hl,cond_true,amm]at hb
    subst hb
    have hl:=al6 hl
    cases m with
    |zero=>simp[DataW.trod]at hx
    |succ m=>
     simp only[DataW.trod,hu]at hx
     split at hx
     ·rename_i hlen
      obtain⟨xs,hm,_⟩:=amd.1 hx
      refine⟨by omega,fun j u c hju hc=>oK (cs:=cs) (n:=n) (m:=m) (fun t ts h cs x hx=>ih t ts h m cs x hx) _ 0 _ hp (fun p hp=> ?_) j u c hju (by simpa using hc)⟩
      obtain⟨i,hi,rfl⟩:=List.mem_map.1 hp
      obtain⟨q,hq⟩:=List.mem_iff_getElem?.1 hi
      have:i=q:=by
       have:=(List.getElem?_eq_some_iff.1 hq)
       obtain⟨h1,h2⟩:=this
       simpa using h2.symm
      subst this
      obtain⟨b,_,hb⟩:=Lib.mapM_at hm i i hq
      exact⟨b,hb⟩
     ·cases hx
  ·rename_i d hns hna hu
   simp only[amm]at h
   subst h
   have h1:cs.length=1:=by
    cases m with
    |zero=>simp[DataW.trod]at hx
    |succ m=>
     unfold DataW.trod at hx
     rw[hu]at hx
     split at hx<;>simp_all
   refine⟨by simpa using h1,fun j u c hju hc=> ?_⟩
   obtain⟨c0,rfl⟩:=List.length_eq_one_iff.1 h1
   have hj:j=0:=by
    rcases j with _|j
    ·rfl
    ·simp at hju
   subst hj
   simp only[List.getElem?_cons_zero,amm]at hju hc
   subst hju;subst hc
   exact⟨m,x,hx⟩
  ·cases h
theorem oU {u:TypeId} {k:IntKind} {c:Value} (hu:P.underlying u=some (.int k)) (h:∃n y,DataW.trod enc P w base spare held n u [c]=some y):∃z,c= .int k z∧(Lit.int k z).wf=true:=by
 obtain⟨n,y,h⟩:=h
 obtain⟨z,hc,_,hw⟩:=DataW.trod_int hu h
 simp only[List.cons.injEq,and_true]at hc
 exact⟨z,hc,hw⟩
theorem aer {α:Type} {en:α→List Value} {size cap:Nat} {a:Addr} {t:List α} (hl:t.length≤cap) (hm:cap≤maxLen) (hs:0<size) (hlen:∀x,(en x).length=size)
  (hp:∀(i:Nat) (x:α),t[i]?=some x→w.cells? base (a.add (i*size)) size=some (en x)):RdF en size (GS.of w).M (some a) cap t:=by
 have hcell:∀(i:Nat) (x:α),t[i]?=some x→∀j v,(en x)[j]?=some v→w.cell? (a.add (i*size+j))=some v:=by
  intro i x hx j v hv
  obtain⟨_,_,h⟩:=World.cells?_some (hp i x hx)
  have hj:j<size:=by rw[←hlen x];exact(List.getElem?_eq_some_iff.1 hv).1
  have h2:=h j hj
  rw[hv,aap]at h2
  exact h2
 have hspot:0<t.length→a=⟨a.block,a.off,none⟩:=by
  intro h0
  have h1:(en t[0])[0]?=some ((en t[0])[0]'(by rw[hlen];exact hs)):=by simp
  have h2:=hcell 0 t[0] (by simp[h0]) 0 _ h1
  have h3:=World.cell?_spot h2
  obtain⟨b,o,sp⟩:=a
  simp only[Nat.zero_mul,Nat.add_zero,Addr.add,if_true]at h3
  subst h3
  rfl
 refine⟨hl,hm,fun h=>congrArg some (hspot h),fun i x hx j v hv=> ?_⟩
 have h0:0<t.length:=by
  have:=(List.getElem?_eq_some_iff.1 hx).1
  omega
 have h:=hcell i x hx j v hv
 rw[hspot h0,bQ]at h
 simp only[gn,GS.of,blk,lS]
 rw[Nat.add_assoc]
 rcases hh:w.heap[a.block]? with _|o
 ·simp[World.cell?,hh]at h
 ·cases o<;>simp[World.cell?,hh]at h ⊢
  exact h
end
inductive Kd|P|R|E|A
def Q0:Exit→Act→World→Prop:=fun _ _ _=>False
theorem lC:¬LetsOut Q0:=fun⟨_,_,h⟩=>h
section
variable {P:Program} {ops:Array Oper} {a a':Act} {w w':World} {K K':Act→World→Prop} {i j:Nat} {o:Oper}
def op1 (P:Program) (ops:Array Oper) (i:Nat) (K:Act→World→Prop) (a:Act) (w:World):Prop:=wpOp P ops Q0 i K a w
theorem op1.mono (h:op1 P ops i K a w) (hk:∀a w,K a w→K' a w):op1 P ops i K' a w:=wpOp_mono hk h
def np (ops:Array Oper) (i:Nat):Option Tmp:=(ops[i]?).bind (·.dst)
theorem bI (h:ops[i]?=some o):np ops i=o.dst:=by simp[np,h]
def Sh (x:Option Tmp) (a a':Act):Prop:=∃u,a'=a.put x u∨∃d,a'=({a with defers:=d::a.defers}:Act).put x u
theorem gI (a:Act) (x:Option Tmp) (v:Value):(a.put x v).defers=a.defers:=by cases x<;>rfl
theorem sY (a:Act) (x:Option Tmp) (v:Value) (d:Deferred):({(a.put x v) with defers:=d::(a.put x v).defers}:Act)=({a with defers:=d::a.defers}:Act).put x v:=by cases x<;>rfl
structure GK (ops:Array Oper) (x:Option Tmp) (o:Oper):Prop where
 look:∀d,x=some d→d∉o.looksAt ops
 dst:∀d,x=some d→o.dst≠some d
 sel:∀cs b,o.op≠ .select cs b
theorem ti (hi:ops[i]?=some o) {x:Option Tmp} {v:Value} (f:GK ops x o) (h:op1 P ops i K (a.put x v) w):op1 P ops i (fun a' w'=>K (a'.put x v) w'∧Sh o.dst a a') a w:=by
 unfold op1 wpOp at*
 simp only[hi]at*
 rw[wanted_put o a x v f.look]at h
 split
 ·rename_i hw
  simp only[hw,if_true]at h
  rcases h with h|⟨_,hl⟩
  case inr=>exact absurd hl lC
  refine .inl ?_
  unfold Oper.wp at*
  rw[execOp_put o f.sel a x v f.look]at h
  generalize (execOp a.eval o).run P w=r at*
  have hc:∀u,(a.put o.dst u).put x v=(a.put x v).put o.dst u:=fun u=>(Act.put_comm a v u f.dst).symm
  cases r with
  |ok n w'=>
   cases n<;>simp only[Oper.upon]at h ⊢
   case value u=>exact⟨by rw[hc];exact h,u,.inl rfl⟩
   case skip=>exact⟨by rw[hc];exact h,_,.inl rfl⟩
   case defer d=>
    refine⟨?_,_,.inr ⟨d,rfl⟩⟩
    rw[sY]at h
    rw[←Act.put_comm _ v undef f.dst]
    exact h
   case enter g args=>
    refine Calls.mono h fun e w'' he=> ?_
    cases e with
    |returned u=>exact⟨by rw[hc];exact he,u,.inl rfl⟩
    |panicked c=>exact he
    |outgrown=>exact he
   case row row args=>exact Rows.mono h fun u w'' he=>⟨by rw[hc];exact he,u,.inl rfl⟩
  |halt y w'=>cases y<;>simp only[Oper.upon]at h ⊢;exact h
 ·rename_i hw
  simp only[hw]at h
  exact⟨by rw[←Act.put_comm a v undef f.dst];exact h,_,.inl rfl⟩
theorem Oi (hi:ops[i]?=some o) {x:Option Tmp} {v:Value} (f:GK ops x o) (h:op1 P ops i K a w):op1 P ops i (fun a' w'=>∃a3,a'=a3.put x v∧K a3 w') (a.put x v) w:=by
 unfold op1 wpOp at*
 simp only[hi]at*
 rw[wanted_put o a x v f.look]
 split
 ·rename_i hw
  simp only[hw,if_true]at h
  rcases h with h|⟨_,hl⟩
  case inr=>exact absurd hl lC
  refine .inl ?_
  unfold Oper.wp at*
  rw[execOp_put o f.sel a x v f.look]
  generalize (execOp a.eval o).run P w=r at*
  have hc:∀u,(a.put x v).put o.dst u=(a.put o.dst u).put x v:=fun u=>Act.put_comm a v u f.dst
  cases r with
  |ok n w'=>
   cases n<;>simp only[Oper.upon]at h ⊢
   case value u=>exact⟨_,hc u,h⟩
   case skip=>exact⟨_,hc _,h⟩
   case defer d=>
    refine⟨_,?_,h⟩
    rw[sY]
    exact Act.put_comm _ v undef f.dst
   case enter g args=>
    refine Calls.mono h fun e w'' he=> ?_
    cases e with
    |returned u=>exact⟨_,hc u,he⟩
    |panicked c=>exact he
    |outgrown=>exact he
   case row row args=>exact Rows.mono h fun u w'' he=>⟨_,hc u,he⟩
  |halt y w'=>cases y<;>simp only[Oper.upon]at h ⊢;exact h
 ·rename_i hw
  simp only[hw]at h
  exact⟨_,Act.put_comm a v undef f.dst,h⟩
theorem iu (a:Act) (x:Option Tmp) (u v:Value):(a.put x u).put x v=a.put x v:=by
 cases x with
 |none=>rfl
 |some d=>simp[Act.put]
theorem Oh (hi:ops[i]?=some o) {v:Value} (hl:∀d,o.dst=some d→d∉o.looksAt ops) (hs:∀cs b,o.op≠ .select cs b) (h:op1 P ops i K (a.put o.dst v) w):op1 P ops i K a w:=by
 unfold op1 wpOp at*
 simp only[hi]at*
 rw[wanted_put o a o.dst v hl]at h
 split
 ·rename_i hw
  simp only[hw,if_true]at h
  rcases h with h|⟨_,hl⟩
  case inr=>exact absurd hl lC
  refine .inl ?_
  unfold Oper.wp at*
  rw[execOp_put o hs a o.dst v hl]at h
  generalize (execOp a.eval o).run P w=r at*
  cases r with
  |ok n w'=>
   cases n<;>simp only[Oper.upon]at h ⊢
   case value u=>rw[iu]at h;exact h
   case skip=>rw[iu]at h;exact h
   case defer d=>rw[sY,iu]at h;exact h
   case enter g args=>
    refine Calls.mono h fun e w'' he=> ?_
    cases e with
    |returned u=>(have he':K ((a.put o.dst v).put o.dst u) w'':=he);rw[iu]at he';exact he'
    |panicked c=>exact he
    |outgrown=>exact he
   case row row args=>exact Rows.mono h fun u w'' he=>by rw[iu]at he;exact he
  |halt y w'=>cases y<;>simp only[Oper.upon]at h ⊢;exact h
 ·rename_i hw
  simp only[hw]at h
  simp only[Bool.false_eq_true,if_false,iu]at h
  exact h
def RV (P:Program) (ops:Array Oper) (i:Nat) (v:Value) (a:Act) (w:World):Prop:=op1 P ops i (fun a' w'=>a'=a.put (np ops i) v∧w'=w) a w
theorem RV.to {v:Value} (h:RV P ops i v a w) (hk:K (a.put (np ops i) v) w):op1 P ops i K a w:=h.mono fun a' w' ⟨h1,h2⟩=>by rw[h1,h2];exact hk
theorem RV.push (hi:ops[i]?=some o) {x:Option Tmp} {u v:Value} (f:GK ops x o) (h:RV P ops i v a w):RV P ops i v (a.put x u) w:=by
 refine(Oi (v:=u) hi f h).mono fun a' w' ⟨a3,h1,h2,h3⟩=>⟨?_,h3⟩
 rw[h1,h2,bI hi]
 exact(Act.put_comm a u v f.dst).symm
theorem Wn {a:Act} {x y:Option Tmp} {u p q:Value} (hxy:∀d,x=some d→y≠some d) (h:(a.put x u).put y p=(a.put x u).put y q):a.put y p=a.put y q:=by
 cases y with
 |none=>rfl
 |some e=>
  by_cases he:e<a.tmps.size
  ·have h1:=congrArg (fun b:Act=>b.tmps[e]?) h
   cases x with
   |none=>exact h
   |some d=>
    simp[Act.put,he]at h1
    rw[h1]
  ·simp[Act.put,Array.setIfInBounds,he]
theorem Ka {a:Act} {x y:Option Tmp} {v u:Value} (hxy:∀d,x=some d→y≠some d) (h:(a.put x v).put y u=a.put x v):a.put y u=a:=by
 cases y with
 |none=>rfl
 |some e=>
  have hset:a.tmps[e]?=some u∨a.tmps.size≤e:=by
   rcases Nat.lt_or_ge e a.tmps.size with he|he
   ·refine .inl ?_
    have h1:=congrArg (fun q:Act=>q.tmps[e]?) h
    cases x with
    |none=>
     simp only[Act.put]at h1
     rw[Array.getElem?_setIfInBounds_self_of_lt he]at h1
     exact h1.symm
    |some d=>
     have hde:d≠e:=fun q=>hxy d rfl (by rw[q])
     simp only[Act.put]at h1
     rw[Array.getElem?_setIfInBounds_self_of_lt (by simpa using he),Array.getElem?_setIfInBounds_ne hde]at h1
     exact h1.symm
   ·exact .inr he
  have:a.tmps.setIfInBounds e u=a.tmps:=by
   apply Array.ext_getElem?
   intro j
   by_cases q:e=j
   ·subst q
    rcases hset with q|q
    ·obtain⟨hlt,_⟩:=Array.getElem?_eq_some_iff.1 q
     rw[Array.getElem?_setIfInBounds_self_of_lt hlt,q]
    ·rw[Array.getElem?_eq_none (by simpa using q),Array.getElem?_eq_none q]
   ·rw[Array.getElem?_setIfInBounds_ne q]
  simp only[Act.put,this]
theorem RV.pull (hi:ops[i]?=some o) {x:Option Tmp} {u v:Value} (f:GK ops x o) (h:RV P ops i v (a.put x u) w):RV P ops i v a w:=by
 refine(ti hi f h).mono fun a' w' ⟨⟨h1,h2⟩,z,h3⟩=>⟨?_,h2⟩
 rw[bI hi]at h1 ⊢
 rcases h3 with rfl|⟨d,rfl⟩
 ·rw[←Act.put_comm a u z f.dst]at h1
  exact Wn f.dst h1
 ·have:=congrArg Act.defers h1
  rw[gI,gI,gI,gI]at this
  have:=congrArg List.length this
  simp at this
theorem RV.self (hi:ops[i]?=some o) {u v:Value} (hl:∀d,o.dst=some d→d∉o.looksAt ops) (hs:∀cs b,o.op≠ .select cs b) (h:RV P ops i v (a.put o.dst u) w):RV P ops i v a w:=by
 unfold RV at h
 rw[bI hi]at h
 simp only[iu]at h
 unfold RV
 rw[bI hi]
 exact Oh hi hl hs h
theorem RV.defer {v:Value} {d:Deferred} (hi:ops[i]?=some o) (h:RV P ops i v a w):RV P ops i v {a with defers:=d::a.defers} w:=by
 unfold RV op1 wpOp at*
 rw[bI hi]at*
 simp only[hi]at*
 have hev:({a with defers:=d::a.defers}:Act).eval=a.eval:=funext fun x=>by cases x<;>rfl
 split
 ·rename_i hw
  simp only[hw,if_true]at h
  rcases h with h|⟨_,hl⟩
  case inr=>exact absurd hl lC
  refine .inl ?_
  unfold Oper.wp at*
  rw[hev]
  generalize (execOp a.eval o).run P w=r at*
  have hc:∀u,a.put o.dst u=a.put o.dst v→({a with defers:=d::a.defers}:Act).put o.dst u=({a with defers:=d::a.defers}:Act).put o.dst v:=fun u hu=>by
   have:=congrArg Act.tmps hu
   cases hd:o.dst with
   |none=>rfl
   |some t=>rw[hd]at this;simp only[Act.put]at this ⊢;rw[this]
  cases r with
  |ok n w'=>
   cases n<;>simp only[Oper.upon]at h ⊢
   case value u=>exact⟨hc u h.1,h.2⟩
   case skip=>exact⟨hc _ h.1,h.2⟩
   case defer e=>
    exfalso
    have:=congrArg List.length (congrArg Act.defers h.1)
    rw[gI,gI]at this
    simp at this
   case enter g args=>
    refine Calls.mono h fun e w'' he=> ?_
    cases e with
    |returned u=>exact⟨hc u he.1,he.2⟩
    |panicked c=>exact he
    |outgrown=>exact he
   case row row args=>exact Rows.mono h fun u w'' he=>⟨hc u he.1,he.2⟩
  |halt y w'=>cases y<;>simp only[Oper.upon]at h ⊢;exact h
 ·rename_i hw
  simp only[hw]at h
  have:=congrArg Act.tmps h.1
  refine⟨?_,h.2⟩
  cases hd:o.dst with
  |none=>rfl
  |some t=>rw[hd]at this;simp only[Act.put]at this ⊢;rw[this]
theorem RV.sh (hi:ops[i]?=some o) {v:Value} {x:Option Tmp} (f:GK ops x o) (hs:Sh x a a') (h:RV P ops i v a w):RV P ops i v a' w:=by
 obtain⟨u,rfl|⟨d,rfl⟩⟩:=hs
 ·exact h.push hi f
 ·exact(h.defer hi).push hi f
def ji (P:Program) (ops:Array Oper) (Q:Act→World→Prop):List (Nat×Kd)→Act→World→Prop
 |[],a,w=>Q a w
 |(i,.P)::r,a,w=>∃v,(∀w',RV P ops i v a w')∧ji P ops Q r (a.put (np ops i) v) w
 |(i,.R)::r,a,w=>∃v,RV P ops i v a w∧ji P ops Q r (a.put (np ops i) v) w
 |(i,.E)::r,a,w=>op1 P ops i (ji P ops Q r) a w
 |(i,.A)::r,a,w=>(∃v,RV P ops i v a w∧a.put (np ops i) v=a)∧ji P ops Q r a w
def eA:List (Nat×Kd)→List (Nat×Kd)
 |[]=>[]
 |(_,.A)::r=>eA r
 |x::r=>x::eA r
def gv:List (Nat×Kd)→Bool
 |[]=>true
 |(_,.E)::_=>false
 |_::r=>gv r
def mf (ops:Array Oper) (b i:Nat):Bool:=match ops[b]?,ops[i]? with
 |some x,some y=>(match x.dst with|some d=> !(y.looksAt ops).contains d&&(match y.dst with|some e=> !Nat.beq e d|none=>true)|none=>true)&&(match y.op with|.select ..=>false|_=>true)
 |_,_=>false
def Hl (ops:Array Oper) (i:Nat):Bool:=match ops[i]? with
 |some y=>(match y.dst with|some d=> !(y.looksAt ops).contains d|none=>true)&&(match y.op with|.select ..=>false|_=>true)
 |none=>false
theorem gM {b i:Nat} (h:mf ops b i=true):∃x y,ops[b]?=some x∧ops[i]?=some y∧GK ops x.dst y:=by
 unfold mf at h
 rcases hb:ops[b]? with _|x
 ·simp[hb]at h
 rcases hi:ops[i]? with _|y
 ·simp[hb,hi]at h
 simp only[hb,hi,aml]at h
 refine⟨x,y,rfl,rfl,fun d hd hm=> ?_,fun d hd he=> ?_,fun cs c hc=> ?_⟩
 ·simp[hd,hm]at h
 ·simp[hd,he]at h
 ·simp[hc]at h
theorem NJ {i:Nat} (h:Hl ops i=true):∃y,ops[i]?=some y∧(∀d,y.dst=some d→d∉y.looksAt ops)∧∀cs b,y.op≠ .select cs b:=by
 unfold Hl at h
 rcases hi:ops[i]? with _|y
 ·simp[hi]at h
 simp only[hi,aml]at h
 refine⟨y,rfl,fun d hd hm=> ?_,fun cs c hc=> ?_⟩
 ·simp[hd,hm]at h
 ·simp[hc]at h
def fb (ops:Array Oper) (b:Nat):List (Nat×Kd)→Bool
 |[]=>false
 |(i,.A)::r=>Nat.beq i b||fb ops b r
 |(_,.E)::_=>false
 |(i,_)::r=>mf ops i b&&fb ops b r
theorem nt {Q:Act→World→Prop} {b:Nat} {y:Oper} (hb:ops[b]?=some y):∀{C:List (Nat×Kd)} {a:Act} {w:World},fb ops b C=true→ji P ops Q C a w→∃v,RV P ops b v a w∧a.put y.dst v=a
 |[],_,_,h,_=>by simp[fb]at h
 |(i,.A)::r,a,w,h,⟨⟨v,h1,h2⟩,h3⟩=>by
  simp only[fb,Bool.or_eq_true]at h
  rcases h with h|h
  ·have:=al6 h
   subst this
   exact⟨v,h1,by rw[←bI hb];exact h2⟩
  ·exact nt hb h h3
 |(_,.E)::r,_,_,h,_=>by simp[fb]at h
 |(i,.P)::r,a,w,h,⟨v,h1,h2⟩=>by
  simp only[fb,aml]at h
  obtain⟨x,z,e1,e2,f⟩:=gM h.1
  rw[hb]at e2;cases e2
  rw[bI e1]at h2
  obtain⟨u,g1,g2⟩:=nt hb h.2 h2
  exact⟨u,g1.pull hb f,Ka f.dst g2⟩
 |(i,.R)::r,a,w,h,⟨v,h1,h2⟩=>by
  simp only[fb,aml]at h
  obtain⟨x,z,e1,e2,f⟩:=gM h.1
  rw[hb]at e2;cases e2
  rw[bI e1]at h2
  obtain⟨u,g1,g2⟩:=nt hb h.2 h2
  exact⟨u,g1.pull hb f,Ka f.dst g2⟩
def gi (ops:Array Oper) (b:Nat) (kb:Kd) (j:Nat) (kj:Kd) (C:List (Nat×Kd)):Bool:=
 mf ops b j&&mf ops j b&&(match kb,kj with
  |.P,_=>true
  |.R,.E=>Hl ops b&&fb ops b C
  |.R,_=>true
  |_,_=>false)
def ft (ops:Array Oper) (j:Nat) (kj:Kd) (C:List (Nat×Kd)):List (Nat×Kd)→Bool
 |[]=>true
 |(_,.A)::B=>ft ops j kj C B
 |(b,kb)::B=>gi ops b kb j kj C&&(match kb,kj with|.R,.E=>(B.all fun p=>match p.2 with|.A=>true|_=>mf ops p.1 b)|_,_=>true)&&ft ops j kj C B
theorem nu {b:Nat}:∀{B C:List (Nat×Kd)},(B.all fun p=>match p.2 with|.A=>true|_=>mf ops p.1 b)=true→gv B=true→fb ops b C=true→fb ops b (eA B++C)=true
 |[],_,_,_,h=>h
 |(_,.A)::B,C,h,he,h2=>nu (B:=B) (by simpa using h) (by simpa[gv] using he) h2
 |(_,.E)::B,C,h,he,h2=>by simp[gv]at he
 |(i,.P)::B,C,h,he,h2=>by
  simp only[List.all_cons,aml]at h
  simp only[eA,ama,fb,aml]
  exact⟨h.1,nu h.2 (by simpa[gv] using he) h2⟩
 |(i,.R)::B,C,h,he,h2=>by
  simp only[List.all_cons,aml]at h
  simp only[eA,ama,fb,aml]
  exact⟨h.1,nu h.2 (by simpa[gv] using he) h2⟩
theorem ur {Q:Act→World→Prop} {j:Nat} {kj:Kd} (hk:kj= .P∨kj= .R) {C:List (Nat×Kd)}:∀{B:List (Nat×Kd)} {a:Act} {w:World},gv B=true→ft ops j kj C B=true→ji P ops Q (B++(j,kj)::C) a w→
  ∃v,RV P ops j v a w∧ji P ops Q (eA B++C) (a.put (np ops j) v) w
 |[],a,w,_,_,h=>by
  rcases hk with rfl|rfl
  ·obtain⟨v,h1,h2⟩:=h;exact⟨v,h1 w,h2⟩
  ·exact h
 |(_,.A)::B,a,w,he,hp,h=>ur hk (B:=B) (by simpa[gv] using he) (by simpa[ft] using hp) h.2
 |(_,.E)::B,a,w,he,hp,h=>by simp[gv]at he
 |(b,.P)::B,a,w,he,hp,⟨v,h1,h2⟩=>by
  simp only[ft,gi,aml]at hp
  obtain⟨x,y,e1,e2,f⟩:=gM hp.1.1.1.1
  obtain⟨y',x',e3,e4,f'⟩:=gM hp.1.1.1.2
  rw[e2]at e3;cases e3
  rw[e1]at e4;cases e4
  obtain⟨u,g1,g2⟩:=ur hk (by simpa[gv] using he) hp.2 h2
  rw[bI e1]at g1 g2
  rw[bI e2]at g2 ⊢
  refine⟨u,g1.pull e2 f,v,fun w'=>(h1 w').push e1 f',?_⟩
  rw[bI e1,←Act.put_comm a v u f.dst]
  exact g2
 |(b,.R)::B,a,w,he,hp,⟨v,h1,h2⟩=>by
  simp only[ft,gi,aml]at hp
  obtain⟨x,y,e1,e2,f⟩:=gM hp.1.1.1.1
  obtain⟨y',x',e3,e4,f'⟩:=gM hp.1.1.1.2
  rw[e2]at e3;cases e3
  rw[e1]at e4;cases e4
  obtain⟨u,g1,g2⟩:=ur hk (by simpa[gv] using he) hp.2 h2
  rw[bI e1]at g1 g2
  rw[bI e2]at g2 ⊢
  refine⟨u,g1.pull e2 f,v,h1.push e1 f',?_⟩
  rw[bI e1,←Act.put_comm a v u f.dst]
  exact g2
theorem zC {Q:Act→World→Prop} {j:Nat} {C:List (Nat×Kd)}:∀{B:List (Nat×Kd)} {a:Act} {w:World},gv B=true→ft ops j .E C B=true→ji P ops Q (B++(j,.E)::C) a w→op1 P ops j (ji P ops Q (eA B++C)) a w
 |[],a,w,_,_,h=>h
 |(_,.A)::B,a,w,he,hp,h=>zC (B:=B) (by simpa[gv] using he) (by simpa[ft] using hp) h.2
 |(_,.E)::B,a,w,he,hp,h=>by simp[gv]at he
 |(b,.P)::B,a,w,he,hp,⟨v,h1,h2⟩=>by
  simp only[ft,gi,aml]at hp
  obtain⟨x,y,e1,e2,f⟩:=gM hp.1.1.1.1
  obtain⟨y',x',e3,e4,f'⟩:=gM hp.1.1.1.2
  rw[e2]at e3;cases e3
  rw[e1]at e4;cases e4
  have g:=zC (by simpa[gv] using he) hp.2 h2
  rw[bI e1]at g
  refine(ti e2 f g).mono fun a' w' ⟨g1,g2⟩=>⟨v,fun w''=>(h1 w'').sh e1 f' g2,?_⟩
  rw[bI e1];exact g1
 |(b,.R)::B,a,w,he,hp,⟨v,h1,h2⟩=>by
  simp only[ft,gi,aml]at hp
  obtain⟨⟨⟨⟨p1,p2⟩,p3,p4⟩,p5⟩,p6⟩:=hp
  obtain⟨x,y,e1,e2,f⟩:=gM p1
  obtain⟨x',e5,hl,hs⟩:=NJ p3
  rw[e1]at e5;cases e5
  have heB:gv B=true:=by simpa[gv] using he
  have g:=zC heB p6 h2
  rw[bI e1]at g
  refine(ti e2 f g).mono fun a' w' ⟨g1,_⟩=> ?_
  obtain⟨u,r1,r2⟩:=nt e1 (nu p5 heB p4) g1
  rw[iu]at r2
  have r3:=r1.self e1 hl hs
  refine⟨u,r3,?_⟩
  rw[bI e1,r2]
  exact g1
def lH (ops:Array Oper) (j:Nat):List Nat:=match ops[j]? with
 |some o=>(o.after.toList.filter (Region.binds .any)).map (·.on)
 |none=>[]
def fk (ops:Array Oper) (ex:List (Nat×Nat)) (j:Nat):List Nat:=lH ops j++(ex.filter fun p=>Nat.beq p.2 j).map (·.1)
def jD (ops:Array Oper) (ex:List (Nat×Nat)):Nat→Nat→Nat→Bool
 |0,_,_=>false
 |f+1,j,b=>(fk ops ex j).any fun k=>Nat.beq k b||jD ops ex f k b
def eV (ops:Array Oper) (ex:List (Nat×Nat)) (b:Nat) (kb:Kd):List (Nat×Kd)→Bool
 |[]=>true
 |(_,.A)::r=>eV ops ex b kb r
 |(j,kj)::r=> !Nat.beq j b&& !(fk ops ex b).contains j&&(jD ops ex 40 j b||gi ops b kb j kj r)&&(match kb with|.R=>mf ops j b|_=>true)&&eV ops ex b kb r
def lR (ops:Array Oper) (ex:List (Nat×Nat)):List (Nat×Kd)→Bool
 |[]=>true
 |(_,.A)::r=>lR ops ex r
 |(b,kb)::r=> !(fk ops ex b).contains b&&eV ops ex b kb r&&lR ops ex r
def pK:List (Nat×Kd)→Nat
 |[]=>0
 |(_,.A)::r=>pK r
 |_::r=>pK r+1
def mH (listed:Array Bool) (k:Nat):Prop:=listed.getD k false=true
def Nl (ops:Array Oper) (ex:List (Nat×Nat)) (listed:Array Bool):Prop:=∀k,mH listed k→∀m∈fk ops ex k,mH listed m
section
variable {ex:List (Nat×Nat)}
theorem uq {listed:Array Bool} (hc:Nl ops ex listed) {b:Nat}:∀(f j:Nat),(∀m∈fk ops ex j,mH listed m)→jD ops ex f j b=true→mH listed b
 |0,_,_,h=>by simp[jD]at h
 |f+1,j,hj,h=>by
  simp only[jD,List.any_eq_true,Bool.or_eq_true]at h
  obtain⟨k,hk,h⟩:=h
  rcases h with h|h
  ·have:=al6 h
   subst this;exact hj _ hk
  ·exact uq hc f k (hc k (hj k hk)) h
theorem Ol {listed:Array Bool} {j:Nat} (h:listed.getD j true=false):¬mH listed j:=by
 unfold mH
 rcases Nat.lt_or_ge j listed.size with hl|hl
 ·simp[hl]at h ⊢;exact h
 ·simp[Array.getElem?_eq_none hl]at h
theorem gy (k:Kd):k= .A∨k≠ .A:=by cases k<;>simp
theorem iN {b j:Nat} {kb kj:Kd} {r:List (Nat×Kd)} (hk:kj≠ .A) (h:eV ops ex b kb ((j,kj)::r)=true):
  j≠b∧(fk ops ex b).contains j=false∧(jD ops ex 40 j b=true∨gi ops b kb j kj r=true)∧(kb= .R→mf ops j b=true)∧eV ops ex b kb r=true:=by
 cases kj
 case A=>exact absurd rfl hk
 all_goals
  simp only[eV,aml,Bool.not_eq_true',Bool.or_eq_true]at h
  obtain⟨⟨⟨⟨h1,h2⟩,h3⟩,h4⟩,h5⟩:=h
  refine⟨fun e=>by subst e;simp at h1,h2,h3,fun e=> ?_,h5⟩
  subst e;exact h4
theorem Ob {b j:Nat} {kb kj:Kd} {r:List (Nat×Kd)} (hk:kj≠ .A) (h1:j≠b) (h2:(fk ops ex b).contains j=false) (h3:jD ops ex 40 j b=true∨gi ops b kb j kj r=true) (h4:kb= .R→mf ops j b=true) (h5:eV ops ex b kb r=true):
  eV ops ex b kb ((j,kj)::r)=true:=by
 have hb:Nat.beq j b=false:=by
  cases e:Nat.beq j b with
  |false=>rfl
  |true=>exact absurd (al6 e) h1
 cases kj
 case A=>exact absurd rfl hk
 all_goals
  simp only[eV,aml,Bool.not_eq_true',Bool.or_eq_true]
  refine⟨⟨⟨⟨hb,h2⟩,h3⟩,?_⟩,h5⟩
  cases kb<;>first|rfl|exact h4 rfl
theorem ic {b:Nat} {kb:Kd} {r:List (Nat×Kd)} (hk:kb≠ .A) (h:lR ops ex ((b,kb)::r)=true):(fk ops ex b).contains b=false∧eV ops ex b kb r=true∧lR ops ex r=true:=by
 cases kb
 case A=>exact absurd rfl hk
 all_goals
  simp only[lR,aml,Bool.not_eq_true']at h
  exact⟨h.1.1,h.1.2,h.2⟩
theorem aeD {b:Nat} {kb:Kd} {r:List (Nat×Kd)} (h1:(fk ops ex b).contains b=false) (h2:eV ops ex b kb r=true) (h3:lR ops ex r=true):lR ops ex ((b,kb)::r)=true:=by
 cases kb<;>simp only[lR,aml,Bool.not_eq_true']<;>first|exact⟨⟨h1,h2⟩,h3⟩|exact h3
theorem Kh {b j:Nat} {kb kj:Kd} {C C':List (Nat×Kd)} (hk:kj≠ .E) (h:gi ops b kb j kj C=true):gi ops b kb j kj C'=true:=by
 unfold gi at h ⊢
 cases kb<;>cases kj<;>first|exact h|exact absurd rfl hk
theorem AM {b:Nat} {kb:Kd} {B:List (Nat×Kd)} (h:gv ((b,kb)::B)=true):kb≠ .E∧gv B=true:=by
 cases kb<;>simp[gv]at h ⊢ <;>exact h
theorem pU {b j:Nat} {kb k:Kd} {C:List (Nat×Kd)}:∀{B:List (Nat×Kd)},gv B=true→eV ops ex b kb (B++(j,k)::C)=true→eV ops ex b kb (eA B++C)=true
 |[],_,h=>by
  rcases gy k with rfl|hk
  ·exact h
  ·exact(iN hk h).2.2.2.2
 |(i,ki)::B,he,h=>by
  obtain⟨h0,h1⟩:=AM he
  rcases gy ki with rfl|hk
  ·exact pU (B:=B) h1 h
  ·obtain⟨a1,a2,a3,a4,a5⟩:=iN hk h
   have:eA ((i,ki)::B)=(i,ki)::eA B:=by cases ki<;>first|rfl|exact absurd rfl hk
   rw[this]
   exact Ob hk a1 a2 (a3.imp id (Kh h0)) a4 (pU h1 a5)
theorem wn {j:Nat} {k:Kd} {C:List (Nat×Kd)}:∀{B:List (Nat×Kd)},gv B=true→lR ops ex (B++(j,k)::C)=true→lR ops ex (eA B++C)=true
 |[],_,h=>by
  rcases gy k with rfl|hk
  ·exact h
  ·exact(ic hk h).2.2
 |(i,ki)::B,he,h=>by
  obtain⟨h0,h1⟩:=AM he
  rcases gy ki with rfl|hk
  ·exact wn (B:=B) h1 h
  ·obtain⟨a1,a2,a3⟩:=ic hk h
   have:eA ((i,ki)::B)=(i,ki)::eA B:=by cases ki<;>first|rfl|exact absurd rfl hk
   rw[this]
   exact aeD a1 (pU h1 a2) (wn h1 a3)
theorem sT {b j:Nat} {kb kj:Kd} (hk:kj≠ .A) {C:List (Nat×Kd)}:∀{B:List (Nat×Kd)},eV ops ex b kb (B++(j,kj)::C)=true→j≠b∧(jD ops ex 40 j b=true∨gi ops b kb j kj C=true)∧(kb= .R→(B.all fun p=>match p.2 with|.A=>true|_=>mf ops p.1 b)=true)
 |[],h=>by
  obtain⟨a1,a2,a3,a4,a5⟩:=iN hk h
  exact⟨a1,a3,fun _=>rfl⟩
 |(i,ki)::B,h=>by
  rcases gy ki with rfl|hki
  ·obtain⟨b1,b2,b3⟩:=sT hk (B:=B) h
   exact⟨b1,b2,fun e=>by simpa using b3 e⟩
  ·obtain⟨a1,a2,a3,a4,a5⟩:=iN hki h
   obtain⟨b1,b2,b3⟩:=sT hk a5
   refine⟨b1,b2,fun e=> ?_⟩
   rw[List.all_cons,b3 e,Bool.and_true]
   have:=a4 e
   cases ki<;>first|rfl|exact this
theorem qb {j:Nat} {kj:Kd} (hk:kj≠ .A) {C:List (Nat×Kd)}:∀{B:List (Nat×Kd)},lR ops ex (B++(j,kj)::C)=true→(∀b kb,(b,kb)∈B→kb≠ .A→jD ops ex 40 j b=false)→
  gv B=true∧ft ops j kj C B=true∧∀b kb,(b,kb)∈B→kb≠ .A→b≠j
 |[],_,_=>⟨rfl,rfl,fun _ _ h=>by simp at h⟩
 |(i,ki)::B,h,hr=>by
  rcases gy ki with rfl|hki
  ·obtain⟨b1,b2,b3⟩:=qb hk (B:=B) h fun b kb hm=>hr b kb (by simp[hm])
   exact⟨b1,b2,fun b kb hm hne=>by
    rcases List.mem_cons.1 hm with e|hm
    ·cases e;exact absurd rfl hne
    ·exact b3 b kb hm hne⟩
  ·obtain⟨a1,a2,a3⟩:=ic hki h
   obtain⟨b1,b2,b3⟩:=qb hk a3 fun b kb hm=>hr b kb (by simp[hm])
   obtain⟨c1,c2,c3⟩:=sT hk a2
   have hp:gi ops i ki j kj C=true:=c2.resolve_left (by rw[hr i ki (by simp) hki];decide)
   refine⟨?_,?_,fun b kb hm hne=> ?_⟩
   ·cases ki
    case E=>simp[gi]at hp
    case A=>exact absurd rfl hki
    all_goals exact b1
   ·cases ki
    case A=>exact absurd rfl hki
    case R=>
     have h3:=c3 rfl
     simp only[ft,aml]
     refine⟨⟨hp,?_⟩,b2⟩
     cases kj<;>first|rfl|exact h3
    all_goals
     simp only[ft,aml]
     exact⟨⟨hp,trivial⟩,b2⟩
   ·rcases List.mem_cons.1 hm with e|hm
    ·cases e;exact c1.symm
    ·exact b3 b kb hm hne
theorem oG {b:Nat} {kb:Kd}:∀{r:List (Nat×Kd)},eV ops ex b kb r=true→∀j kj,(j,kj)∈r→kj≠ .A→j≠b∧(fk ops ex b).contains j=false
 |[],_,_,_,hm,_=>by simp at hm
 |(i,ki)::r,h,j,kj,hm,hne=>by
  rcases gy ki with rfl|hki
  ·rcases List.mem_cons.1 hm with e|hm
   ·cases e;exact absurd rfl hne
   ·exact oG (r:=r) h j kj hm hne
  ·obtain⟨a1,a2,a3,a4,a5⟩:=iN hki h
   rcases List.mem_cons.1 hm with e|hm
   ·cases e;exact⟨a1,a2⟩
   ·exact oG a5 j kj hm hne
theorem wq {j:Nat} {kj:Kd} (hk:kj≠ .A) {C:List (Nat×Kd)}:∀{B:List (Nat×Kd)},lR ops ex (B++(j,kj)::C)=true→eV ops ex j kj C=true
 |[],h=>(ic hk h).2.1
 |(i,ki)::B,h=>by
  rcases gy ki with rfl|hki
  ·exact wq hk (B:=B) h
  ·exact wq hk (ic hki h).2.2
theorem Bt {b:Nat} {kb:Kd} (hk:kb≠ .A):∀{B:List (Nat×Kd)},(b,kb)∈B→(b,kb)∈eA B
 |[],h=>by simp at h
 |(i,ki)::B,h=>by
  rcases List.mem_cons.1 h with e|h
  ·cases e
   cases kb<;>first|exact absurd rfl hk|simp[eA]
  ·have:=Bt hk h
   cases ki<;>simp[eA,this]
theorem lQ {b:Nat} {kb:Kd}:∀{B:List (Nat×Kd)},(b,kb)∈eA B→(b,kb)∈B
 |[],h=>by simp[eA]at h
 |(i,ki)::B,h=>by
  cases ki
  case A=>exact List.mem_cons_of_mem _ (lQ (B:=B) h)
  all_goals
   rcases List.mem_cons.1 (show(b,kb)∈_::eA B from h) with e|h
   ·rw[e];exact List.mem_cons_self
   ·exact List.mem_cons_of_mem _ (lQ h)
theorem Gf {j:Nat} {k:Kd} (hk:k≠ .A) {C:List (Nat×Kd)}:∀{B:List (Nat×Kd)},pK (B++(j,k)::C)=pK (eA B++C)+1
 |[]=>by cases k<;>first|rfl|exact absurd rfl hk
 |(i,ki)::B=>by
  have:=Gf hk (B:=B) (C:=C) (j:=j)
  cases ki<;>simp only[ama,eA,pK]<;>omega
theorem Ah {Q:Act→World→Prop}:∀{R:List (Nat×Kd)} {a:Act} {w:World},pK R=0→ji P ops Q R a w→Q a w
 |[],_,_,_,h=>h
 |(_,.A)::R,_,_,hc,h=>Ah (R:=R) hc h.2
 |(_,.P)::R,_,_,hc,h=>by simp[pK]at hc
 |(_,.R)::R,_,_,hc,h=>by simp[pK]at hc
 |(_,.E)::R,_,_,hc,h=>by simp[pK]at hc
theorem rv {Q:Exit→Act→World→Prop} (h:op1 P ops i K a w):wpOp P ops Q i K a w:=by
 unfold op1 wpOp at*
 rcases hi:ops[i]? with _|o
 ·simp only[hi]at*;exact h
 simp only[hi]at*
 split
 ·rename_i hw
  simp only[hw,if_true]at h
  rcases h with h|⟨_,hl⟩
  case inr=>exact absurd hl lC
  refine .inl ?_
  unfold Oper.wp at*
  generalize (execOp a.eval o).run P w=r at*
  cases r with
  |ok n w'=>
   cases n<;>simp only[Oper.upon]at h ⊢
   case enter g args=>
    refine Calls.mono h fun e w'' he=> ?_
    cases e with
    |returned u=>exact he
    |panicked c=>exact False.elim he
    |outgrown=>exact absurd he lC
   all_goals exact h
  |halt y w'=>cases y<;>simp only[Oper.upon]at h ⊢;exact False.elim h
 ·rename_i hw
  simp only[hw]at h
  exact h
theorem Cp:∀{R:List (Nat×Kd)},pK R≠0→∃B b kb C,R=B++(b,kb)::C∧kb≠ .A∧∀x∈B,x.2= .A
 |[],h=>absurd rfl h
 |(i,.A)::R,h=>by
  obtain⟨B,b,kb,C,h1,h2,h3⟩:=Cp (R:=R) h
  exact⟨(i,.A)::B,b,kb,C,by rw[h1];rfl,h2,fun x hx=>by
   rcases List.mem_cons.1 hx with rfl|hx
   ·rfl
   ·exact h3 x hx⟩
 |(i,.P)::R,_=>⟨[],i,.P,R,rfl,by simp,by simp⟩
 |(i,.R)::R,_=>⟨[],i,.R,R,rfl,by simp,by simp⟩
 |(i,.E)::R,_=>⟨[],i,.E,R,rfl,by simp,by simp⟩
theorem xQ {b:Nat} {kb:Kd} (hk:kb≠ .A) {C:List (Nat×Kd)}:∀{B:List (Nat×Kd)},(∀x∈B,x.2= .A)→lR ops ex (B++(b,kb)::C)=true→(fk ops ex b).contains b=false∧eV ops ex b kb C=true
 |[],_,h=>⟨(ic hk h).1,(ic hk h).2.1⟩
 |(i,ki)::B,hB,h=>by
  have:ki= .A:=hB (i,ki) (by simp)
  subst this
  exact xQ hk (B:=B) (fun x hx=>hB x (by simp[hx])) h
def jw (ops:Array Oper):Nat→Array Bool→List Nat→Prop
 |0,_,r=>r=[]
 |f+1,listed,r=>(Region.ready .any ops listed=[]∧r=[])∨∃i r',i∈Region.ready .any ops listed∧r=i::r'∧jw ops f (listed.setIfInBounds i true) r'
theorem NX:∀(fuel t:Nat) (listed:Array Bool),jw ops fuel listed (Region.linearise.go .any ops fuel t listed []):=by
 intro fuel
 induction fuel with
 |zero=>intro t listed;simp[Region.linearise.go,jw]
 |succ fuel ih=>
  intro t listed
  simp only[Region.linearise.go]
  change jw ops (fuel+1) listed (match (Region.ready .any ops listed)[t % (Region.ready .any ops listed).length]? with
   |some i=>Region.linearise.go .any ops fuel (t / (Region.ready .any ops listed).length) (listed.setIfInBounds i true) [i]
   |none=>[].reverse)
  cases hi:(Region.ready .any ops listed)[t % (Region.ready .any ops listed).length]? with
  |none=>
   have hnil:Region.ready .any ops listed=[]:=by
    cases hr:Region.ready .any ops listed with
    |nil=>rfl
    |cons x xs=>
     rw[hr]at hi
     have hlt:t % (x::xs).length<(x::xs).length:=Nat.mod_lt _ (by simp)
     simp at hi
     simp at hlt
     omega
   exact .inl ⟨hnil,rfl⟩
  |some i=>
   simp only[]
   rw[linearise_go_acc,List.reverse_singleton,List.singleton_append]
   exact .inr ⟨i,_,al7 hi,rfl,ih _ _⟩
def Dt (x y:Nat) (r:List Nat):Prop:=∀A B,r=A++y::B→x∈A
theorem MD {x y:Nat} (h:x≠y) (r:List Nat):Dt x y r∨Dt y x r:=by
 by_cases hb:Dt x y r
 ·exact .inl hb
 ·refine .inr fun A' B' hr=> ?_
  unfold Dt at hb
  obtain⟨A,hb⟩:=Classical.not_forall.1 hb
  obtain⟨B,hb⟩:=Classical.not_forall.1 hb
  obtain⟨h1,h2⟩:=Classical.not_imp.1 hb
  rw[h1]at hr
  rcases List.append_eq_append_iff.1 hr with⟨C,e1,e2⟩|⟨C,e1,e2⟩
  ·rw[e1]
   cases C with
   |nil=>simp at e2;exact absurd e2.1 (Ne.symm h)
   |cons c C=>simp at e2;rw[←e2.1];simp
  ·cases C with
   |nil=>simp at e2;exact absurd e2.1 h
   |cons c C=>
    simp at e2
    exact absurd (by rw[e1,←e2.1];simp) h2
theorem JQ {Q:Exit→Act→World→Prop}:∀(fuel:Nat) (R:List (Nat×Kd)) (listed:Array Bool) (A r:List Nat) (a:Act) (w:World),lR ops ex R=true→Nl ops ex listed→
  (∀j,listed.getD j true=false→∃k,k≠ .A∧(j,k)∈R)→(∀j k,(j,k)∈R→k≠ .A→listed.getD j true=false)→(∀j m,m∈lH ops j→m<listed.size)→(∀j k,(j,k)∈R→k≠ .A→j<ops.size)→pK R=fuel→
  jw ops fuel listed r→(∀x∈A,mH listed x)→(∀p∈ex,Dt p.1 p.2 (A++r))→ji P ops (fun a w=>Q .normal a w) R a w→wpOps P ops Q r a w:=by
 intro fuel
 induction fuel with
 |zero=>
  intro R listed A r a w hok hcl h1 h3 h6 h7 hc hs hA hB h
  have:r=[]:=hs
  subst this
  exact Ah hc h
 |succ fuel ih=>
  intro R listed A r a w hok hcl h1 h3 h6 h7 hc hs hA hB h
  rcases hs with⟨hr,rfl⟩|⟨j,r',hj,rfl,hs⟩
  ·exfalso
   obtain⟨B,b,kb,C,rfl,hk,hB'⟩:=Cp (R:=R) (by omega)
   obtain⟨g1,g2⟩:=xQ hk hB' hok
   have hb:=h3 b kb (by simp) hk
   have hlt:=h7 b kb (by simp) hk
   have:b∈Region.ready .any ops listed:=by
    refine mem_ready.2 ⟨hb,ops[b],by simp[hlt],fun e he hbd=> ?_⟩
    have hm:e.on∈lH ops b:=by
     simp only[lH,Array.getElem?_eq_getElem hlt,List.mem_map,List.mem_filter]
     exact⟨e,⟨by simpa using he,hbd⟩,rfl⟩
    have hm2:e.on∈fk ops ex b:=amh.2 (.inl hm)
    have hms:=h6 b _ hm
    rcases hd:listed.getD e.on true with _|_
    ·exfalso
     obtain⟨k',hk',hm'⟩:=h1 _ hd
     rcases amh.1 hm' with q|q
     ·exact hk' (hB' _ q)
     ·rcases List.mem_cons.1 q with e'|q
      ·injection e' with e1 e2
       rw[e1]at hm2
       rw[List.contains_iff_mem.2 hm2]at g1;cases g1
      ·have:=(oG g2 _ k' q hk').2
       rw[List.contains_iff_mem.2 hm2]at this;cases this
    ·simp[hms]at hd ⊢
     exact hd
   rw[hr]at this
   cases this
  ·obtain⟨hju,oj,hoj,hall⟩:=mem_ready.1 hj
   obtain⟨k,hk,hm⟩:=h1 j hju
   obtain⟨B,C,rfl⟩:=List.append_of_mem hm
   have hjw:∀m∈fk ops ex j,mH listed m:=by
    intro m hm
    rcases amh.1 hm with hm|hm
    ·simp only[lH,hoj,List.mem_map,List.mem_filter]at hm
     obtain⟨e,⟨he,hb⟩,rfl⟩:=hm
     exact hall e (by simpa using he) hb
    ·simp only[List.mem_map,List.mem_filter]at hm
     obtain⟨p,⟨hp,hb⟩,rfl⟩:=hm
     have hb:=al6 hb
     exact hA _ (hB p hp A r' (by rw[hb]))
   obtain⟨c1,c2,c3⟩:=qb hk hok fun b kb hb hne=>by
    rcases hr:jD ops ex 40 j b with _|_
    ·rfl
    ·exact absurd (uq hcl 40 j hjw hr) (Ol (h3 b kb (by simp[hb]) hne))
   have hop:op1 P ops j (ji P ops (fun a w=>Q .normal a w) (eA B++C)) a w:=by
    cases k
    case A=>exact absurd rfl hk
    case E=>exact zC c1 c2 h
    case P=>
     obtain⟨v,v1,v2⟩:=ur (.inl rfl) c1 c2 h
     exact v1.to v2
    case R=>
     obtain⟨v,v1,v2⟩:=ur (.inr rfl) c1 c2 h
     exact v1.to v2
   rw[wpOps_cons]
   refine rv (hop.mono fun a' w' h'=> ?_)
   have hmid:=wq hk hok
   refine ih (eA B++C) _ (A++[j]) r' a' w' (wn c1 hok) ?_ ?_ ?_ ?_ ?_ ?_ hs ?_ ?_ h'
   ·intro i hi m hm
    by_cases hij:j=i
    ·subst hij;exact getD_set_true (hjw m hm)
    ·unfold mH at hi
     rw[getD_set_ne false hij]at hi
     exact getD_set_true (hcl i hi m hm)
   ·intro i hi
    by_cases hij:j=i
    ·subst hij
     rcases Nat.lt_or_ge j listed.size with hl|hl
     ·simp[hl]at hi
     ·simp[Array.getElem?_eq_none hl]at hju
    ·rw[getD_set_ne true hij]at hi
     obtain⟨k',hk',hm'⟩:=h1 i hi
     refine⟨k',hk',amh.2 ?_⟩
     rcases amh.1 hm' with q|q
     ·exact .inl (Bt hk' q)
     ·rcases List.mem_cons.1 q with e|q
      ·cases e;exact absurd rfl hij
      ·exact .inr q
   ·intro i k' hm' hk'
    have hmem:(i,k')∈B++(j,k)::C∧i≠j:=by
     rcases amh.1 hm' with q|q
     ·exact⟨amh.2 (.inl (lQ q)),c3 i k' (lQ q) hk'⟩
     ·exact⟨amh.2 (.inr (List.mem_cons_of_mem _ q)),(oG hmid i k' q hk').1⟩
    rw[getD_set_ne true (fun e=>hmem.2 e.symm)]
    exact h3 i k' hmem.1 hk'
   ·intro i m hm
    rw[Array.size_setIfInBounds]
    exact h6 i m hm
   ·intro i k' hm' hk'
    refine h7 i k' ?_ hk'
    rcases amh.1 hm' with q|q
    ·exact amh.2 (.inl (lQ q))
    ·exact amh.2 (.inr (List.mem_cons_of_mem _ q))
   ·rw[Gf hk]at hc
    omega
   ·intro x hx
    rcases amh.1 hx with hx|hx
    ·exact getD_set_true (hA x hx)
    ·simp at hx
     subst hx
     unfold mH
     rcases Nat.lt_or_ge x listed.size with hl|hl
     ·simp[hl]
     ·simp[Array.getElem?_eq_none hl]at hju
   ·intro p hp
    rw[amb]
    exact hB p hp
end
def Hu (ops:Array Oper) (ex:List (Nat×Nat)) (n:Nat) (R:List (Nat×Kd)):Bool:=
 Nat.beq ops.size n&&Nat.beq (pK R) n&&lR ops ex R&&((List.range n).all fun j=>R.any fun p=>Nat.beq p.1 j&&(match p.2 with|.A=>false|_=>true))&&(R.all fun p=>Nat.blt p.1 n)&&((List.range n).all fun j=>(lH ops j).all fun m=>Nat.blt m n)
inductive Tr|leaf (R:List (Nat×Kd))|split (x y:Nat) (s t:Tr)
def rf (ops:Array Oper) (n:Nat):List (Nat×Nat)→Tr→Bool
 |ex,.leaf R=>Hu ops ex n R
 |ex,.split x y s t=> !Nat.beq x y&&rf ops n ((x,y)::ex) s&&rf ops n ((y,x)::ex) t
def Ag (P:Program) (ops:Array Oper) (Q:Act→World→Prop) (a:Act) (w:World):Tr→Prop
 |.leaf R=>ji P ops Q R a w
 |.split _ _ s t=>Ag P ops Q a w s∧Ag P ops Q a w t
theorem Yw {Q:Exit→Act→World→Prop} {ex:List (Nat×Nat)} {n:Nat} {R:List (Nat×Kd)} (hp:Hu ops ex n R=true) {r:List Nat} (hs:jw ops ops.size (Array.replicate ops.size false) r) (hb:∀p∈ex,Dt p.1 p.2 r) {a:Act} {w:World}
  (h:ji P ops (fun a w=>Q .normal a w) R a w):wpOps P ops Q r a w:=by
 unfold Hu at hp
 simp only[aml]at hp
 obtain⟨⟨⟨⟨⟨p1,p2⟩,p3⟩,p4⟩,p5⟩,p6⟩:=hp
 have p1:=al6 p1
 have p2:=al6 p2
 refine JQ ops.size R _ [] r a w p3 (fun k hk=> ?_) (fun j hj=> ?_) (fun j k hjk _=> ?_) (fun j m hmw=> ?_) (fun j k hjk _=> ?_) (by omega) hs (by simp) hb h
 ·unfold mH at hk
  rcases Nat.lt_or_ge k ops.size with q|q
  ·simp[q]at hk
  ·simp[Array.getElem?_eq_none,q]at hk
 ·have hlt:j<ops.size:=by
   rcases Nat.lt_or_ge j ops.size with q|q
   ·exact q
   ·simp[Array.getElem?_eq_none,q]at hj
  have:=List.all_eq_true.1 p4 j (by simp;omega)
  obtain⟨⟨b,k⟩,hb,hq⟩:=List.any_eq_true.1 this
  simp only[aml]at hq
  have hbj:=al6 hq.1
  subst hbj
  exact⟨k,fun e=>by subst e;simp at hq,hb⟩
 ·have:=List.all_eq_true.1 p5 _ hjk
  simp only[amq]at this
  have hlt:j<ops.size:=by omega
  simp[hlt]
 ·rw[Array.size_replicate]
  rcases Nat.lt_or_ge j ops.size with q|q
  ·have:=List.all_eq_true.1 (List.all_eq_true.1 p6 j (by simp;omega)) m hmw
   simp only[amq]at this
   omega
  ·simp[lH,Array.getElem?_eq_none,q]at hmw
 ·have:=List.all_eq_true.1 p5 _ hjk
  simp only[amq]at this
  omega
theorem vW {Q:Exit→Act→World→Prop} {n:Nat} {r:List Nat} (hs:jw ops ops.size (Array.replicate ops.size false) r) {a:Act} {w:World}:∀(t:Tr) (ex:List (Nat×Nat)),rf ops n ex t=true→(∀p∈ex,Dt p.1 p.2 r)→Ag P ops (fun a w=>Q .normal a w) a w t→wpOps P ops Q r a w
 |.leaf R,ex,hp,hb,h=>Yw hp hs hb h
 |.split x y s t,ex,hp,hb,⟨h1,h2⟩=>by
  simp only[rf,aml,Bool.not_eq_true']at hp
  obtain⟨⟨p1,p2⟩,p3⟩:=hp
  have hne:x≠y:=fun e=>by subst e;simp at p1
  rcases MD hne r with q|q
  ·exact vW hs s _ p2 (fun p hp=>by rcases List.mem_cons.1 hp with rfl|hp<;>first|exact q|exact hb p hp) h1
  ·exact vW hs t _ p3 (fun p hp=>by rcases List.mem_cons.1 hp with rfl|hp<;>first|exact q|exact hb p hp) h2
theorem vU {Q:Exit→Act→World→Prop} {id:Nat} (hm:P.follows .mixedOrders=true) (n:Nat) (t:Tr) (hp:rf ops n [] t=true) (h:Ag P ops (fun a w=>Q .normal a w) a {w with drawn:=w.drawn+1} t):(Code.region id ops true).wp P Q a w:=
 wp_region_draw fun k=>by
  simp only[Region.schedule,hm,Bool.true_or,if_true]
  exact vW (NX ops.size k _) t [] hp (by simp) h
end
section
variable {H:Type} {enc:TypeId×Value→H} {P:Program} {w:World} {base:Nat} {spare:Nat→Bool} {held:Bool}
end
end Go.Eng
namespace Go.Sy
open Go Go.RowKit Go.Eng
structure Env where
 at_:Nat→Value
 M:dS
instance:CoeFun Env (fun _=>Nat→Value):=⟨Env.at_⟩
noncomputable def aq (p:Prop):Bool:= @decide p (Classical.propDecidable p)
theorem prB_true {p:Prop}:aq p=true↔p:=by simp[aq]
theorem prB_false {p:Prop}:aq p=false↔¬p:=by simp[aq]
theorem gJ (p:Prop) [Decidable p]:aq p=decide p:=by
 rw[Bool.eq_iff_iff,prB_true,decide_eq_true_eq]
theorem oH (b:Bool):aq (b=true)=b:=by cases b<;>simp[aq]
inductive PL:Type 1
 |int (k:Nat) (z:Int)|bool (b:Bool)|str (l:List Nat)|nilP|nilS|nilM|nilF|nilI
 |sint (k:Nat) (z:Int)|sbool (p:Prop)|sstr (l:List UInt8)
 |imm (h:Value) (sz:Nat) (α:Type) (l:List α) (enc:α→List PL)
 |raw (v:Value)
inductive SY:Type 1
 |int (k:Nat) (z:Int)|bool (p:Prop)|str (l:List UInt8)|imm (h:Value) (sz:Nat) (α:Type) (l:List α) (enc:α→List PL)
 |pim (b o:Nat) (cs:List PL)|prow (i n:Nat)|psub (i sz a n o:Nat) (c:Option Nat)|rptr (i sz e o:Nat)|pfix (i n c:Nat)|kmp (i:Nat)
 |vl (h:Value) (f:Bool) (α:Type) (x:Option α) (enc:α→List PL)
inductive ACap|ex (n:Nat)|rest (k:Nat)
inductive AV:Type 1
 |bad
 |int (k:Nat) (z:Int)|bool (b:Bool)|str (l:List Nat)|ptr (i o:Nat)|sl (i o n:Nat) (c:ACap)|map (i:Nat)
 |nilP|nilS|nilM|nilF|nilI|iface (t:Nat) (v:AV)|fn (f:Nat) (c:List AV)|yl (i:Nat)
 |agg (l:List AV)|tup (l:List AV)|any (i:Nat)|sy (s:SY)
def ca:Nat→IntKind
 |0=>.i64|1=>.u8|2=>.u16|3=>.u32|4=>.u64|5=>.i32|6=>.i16|_=>.i8
noncomputable def aQ:PL→Value
 |.int k z=>.int (ca k) z
 |.bool b=>.bool b
 |.str l=>S (l.map UInt8.ofNat)
 |.nilP=>.pointer none
 |.nilS=>.slice none 0 0
 |.nilM=>.map none
 |.nilF=>.nilFunc
 |.nilI=>.nilIface
 |.sint k z=>.int (ca k) z
 |.sbool p=>.bool (aq p)
 |.sstr l=>S l
 |.imm h _ _ _ _=>h
 |.raw v=>v
inductive OkP (M:dS):PL→Prop
 |int (k:Nat) (z:Int):OkP M (.int k z)
 |bool (b:Bool):OkP M (.bool b)
 |str (l:List Nat):OkP M (.str l)
 |nilP:OkP M .nilP
 |nilS:OkP M .nilS
 |nilM:OkP M .nilM
 |nilF:OkP M .nilF
 |nilI:OkP M .nilI
 |sint (k:Nat) (z:Int):OkP M (.sint k z)
 |sbool (p:Prop):OkP M (.sbool p)
 |sstr (l:List UInt8):OkP M (.sstr l)
 |imm {h:Value} {sz:Nat} {α:Type} {l:List α} {enc:α→List PL} (ao:Option Addr) (cap:Nat) (hh:h= .slice ao l.length cap) (h1:l.length≤cap) (h2:cap≤maxLen) (h3:0<sz)
   (ha:0<l.length→ao=some ⟨blk ao,lS ao,none⟩) (hl:∀x∈l,(enc x).length=sz) (ho:∀x∈l,∀p∈enc x,OkP M p)
   (hr:∀i x,l[i]?=some x→MRow M (blk ao) (lS ao+i*sz) ((enc x).map aQ)):OkP M (.imm h sz α l enc)
 |raw {v:Value} (h:Value.oneCell' v=true):OkP M (.raw v)
def MLe (M M':dS):Prop:=∀b o,M b=some o→M' b=some o
theorem MLe.refl (M:dS):MLe M M:=fun _ _ h=>h
theorem MLe.trans {a b c:dS} (h:MLe a b) (k:MLe b c):MLe a c:=fun x o e=>k x o (h x o e)
theorem Pk {M M':dS} (h:MLe M M') {b o:Nat} {v:Value} (hm:gn M b o=some v):gn M' b o=some v:=by
 unfold gn at hm ⊢
 rcases e:M b with _|ob
 ·simp[e]at hm
 ·rw[h b ob e];rw[e]at hm;exact hm
theorem MRow.le {M M':dS} (h:MLe M M') {b o:Nat} {cs:List Value} (hm:MRow M b o cs):MRow M' b o cs:=fun j v hv=>Pk h (hm j v hv)
theorem OkP.mono {M M':dS} (h:MLe M M') {p:PL} (hp:OkP M p):OkP M' p:=by
 induction hp with
 |imm ao cap hh h1 h2 h3 ha hl ho hr ih=>exact .imm ao cap hh h1 h2 h3 ha hl ih (fun i x hx=>MRow.le h (hr i x hx))
 |int k z=>exact .int k z
 |bool b=>exact .bool b
 |str l=>exact .str l
 |nilP=>exact .nilP
 |nilS=>exact .nilS
 |nilM=>exact .nilM
 |nilF=>exact .nilF
 |nilI=>exact .nilI
 |sint k z=>exact .sint k z
 |sbool p=>exact .sbool p
 |sstr l=>exact .sstr l
 |raw h=>exact .raw h
open Classical in
noncomputable def dQ (E:Env) (p:PL):Option Value:=if OkP E.M p then some (aQ p) else none
open Classical in
noncomputable def jK (E:Env) (ps:List PL):Option (List Value):=if ∀p∈ps,OkP E.M p then some (ps.map aQ) else none
theorem ep {E:Env} {p:PL} {x:Value} (h:dQ E p=some x):OkP E.M p∧x=aQ p:=by
 unfold dQ at h
 split at h
 ·exact⟨‹_›,(amp h).symm⟩
 ·cases h
theorem fy {E:Env} {p:PL} (h:OkP E.M p):dQ E p=some (aQ p):=by simp[dQ,h]
theorem pq {E:Env} {ps:List PL} {xs:List Value} (h:jK E ps=some xs):(∀p∈ps,OkP E.M p)∧xs=ps.map aQ:=by
 unfold jK at h
 split at h
 ·exact⟨‹_›,(amp h).symm⟩
 ·cases h
theorem eI {E:Env} {ps:List PL} (h:∀p∈ps,OkP E.M p):jK E ps=some (ps.map aQ):=by unfold jK;rw[if_pos h]
structure cM where
 b:Nat
 cap:Nat
abbrev Ren:=Nat→Option cM
def Ren.Le (ρ ρ':Ren):Prop:=∀i e,ρ i=some e→ρ' i=some e
theorem Ren.Le.refl (ρ:Ren):ρ.Le ρ:=fun _ _ h=>h
theorem Ren.Le.trans {a b c:Ren} (h:a.Le b) (k:b.Le c):a.Le c:=fun i e he=>k i e (h i e he)
def Ren.set (ρ:Ren) (i:Nat) (e:cM):Ren:=fun j=>if j=i then some e else ρ j
theorem Ren.le_set {ρ:Ren} {i:Nat} (e:cM) (h:ρ i=none):ρ.Le (ρ.set i e):=by
 intro j f hj
 unfold Ren.set
 split
 ·rename_i hji;subst hji;rw[h]at hj;cases hj
 ·exact hj
theorem Ren.set_self (ρ:Ren) (i:Nat) (e:cM):ρ.set i e i=some e:=by simp[Ren.set]
theorem Ren.set_ne {ρ:Ren} {i j:Nat} (e:cM) (h:j≠i):ρ.set i e j=ρ j:=by simp[Ren.set,h]
def cw (e:cM):ACap→Nat
 |.ex n=>n
 |.rest k=>e.cap - k
def ii (e:cM) (n:Nat):Option Value:=match e.cap with
 |0=>if n=0 then some (.slice none 0 0) else none
 |c+1=>some (.slice (some ⟨e.b,0,none⟩) n c)
def kx (e:cM) (n c:Nat):Option Value:=match e.cap with
 |0=>if n=0∧c=0 then some (.slice none 0 0) else none
 |_+1=>some (.slice (some ⟨e.b,0,none⟩) n c)
def gQ (e:cM) (sz a n o:Nat) (oc:Option Nat):Option Value:=match e.cap with
 |0=>if n=0∧a=0∧(∀q,oc=some q→q=0) then some (.slice none 0 0) else none
 |c+1=>if a+n≤c∧(∀q,oc=some q→q=c) then some (.slice (some ⟨e.b,if c=a then o else a*sz,none⟩) n (c - a)) else none
def IptOk (M:dS) (h:Value) (α:Type) (x:Option α) (enc:α→List PL):Prop:=match x with
 |none=>h= .pointer none
 |some y=>∃b o,h= .pointer (some ⟨b,o,none⟩)∧(∀p∈enc y,OkP M p)∧MRow M b o ((enc y).map aQ)
theorem IptOk.mono {M M':dS} (hl:MLe M M') {h:Value} {α:Type} {x:Option α} {enc:α→List PL} (k:IptOk M h α x enc):IptOk M' h α x enc:=by
 cases x with
 |none=>exact k
 |some y=>obtain⟨b,o,h1,h2,h3⟩:=k;exact⟨b,o,h1,fun p hp=>(h2 p hp).mono hl,MRow.le hl h3⟩
open Classical in
noncomputable def aJ (E:Env) (ρ:Ren):SY→Option Value
 |.int k z=>some (.int (ca k) z)
 |.bool p=>some (.bool (aq p))
 |.str l=>some (S l)
 |.imm h sz α l enc=>dQ E (.imm h sz α l enc)
 |.pim b o cs=>if (∀p∈cs,OkP E.M p)∧MRow E.M b o (cs.map aQ) then some (.pointer (some ⟨b,o,none⟩)) else none
 |.prow i n=>match ρ i with|some e=>ii e n|none=>none
 |.psub i sz a n o oc=>match ρ i with|some e=>gQ e sz a n o oc|none=>none
 |.pfix i n c=>match ρ i with|some e=>kx e n c|none=>none
 |.rptr i sz q o=>match ρ i with|some e=>some (.pointer (some ⟨e.b,q*sz+o,none⟩))|none=>none
 |.kmp i=>match ρ i with|some e=>some (.map (bif Nat.beq e.cap 0 then none else some e.b))|none=>none
 |.vl h f α x enc=>if Value.oneCell' h=true∧(f=true→IptOk E.M h α x enc) then some h else none
mutual
noncomputable def den (E:Env) (ρ:Ren):AV→Option Value
 |.bad=>none
 |.int k z=>some (.int (ca k) z)
 |.bool b=>some (.bool b)
 |.str l=>some (S (l.map UInt8.ofNat))
 |.ptr i o=>match ρ i with|some e=>some (.pointer (some ⟨e.b,o,none⟩))|none=>none
 |.sl i o n c=>match ρ i with|some e=>some (.slice (some ⟨e.b,o,none⟩) n (cw e c))|none=>none
 |.map i=>match ρ i with|some e=>some (.map (some e.b))|none=>none
 |.nilP=>some (.pointer none)
 |.nilS=>some (.slice none 0 0)
 |.nilM=>some (.map none)
 |.nilF=>some .nilFunc
 |.nilI=>some .nilIface
 |.iface t v=>match den E ρ v with|some x=>some (.iface t x)|none=>none
 |.fn f c=>match ay E ρ c with|some cs=>some (.func (.func f) #[] cs.toArray)|none=>none
 |.yl i=>match ρ i with|some e=>some (.func (.yield e.b) #[] #[])|none=>none
 |.agg l=>match ay E ρ l with|some cs=>some (.agg cs.toArray)|none=>none
 |.tup l=>match ay E ρ l with|some cs=>some (.tuple cs.toArray)|none=>none
 |.any i=>match ρ i with|some _=>some (E i)|none=>none
 |.sy s=>aJ E ρ s
noncomputable def ay (E:Env) (ρ:Ren):List AV→Option (List Value)
 |[]=>some []
 |v::r=>match den E ρ v with
  |some x=>match ay E ρ r with
   |some xs=>some (x::xs)
   |none=>none
  |none=>none
end
section
variable {E:Env} {ρ ρ':Ren}
theorem bf {v:AV} {r:List AV} {ys:List Value} (h:ay E ρ (v::r)=some ys):∃x xs,den E ρ v=some x∧ay E ρ r=some xs∧ys=x::xs:=by
 unfold ay at h
 split at h
 ·rename_i x hx
  split at h
  ·rename_i xs hxs
   exact⟨x,xs,hx,hxs,(amp h).symm⟩
  ·cases h
 ·cases h
theorem eR {v:AV} {r:List AV} {x:Value} {xs:List Value} (h1:den E ρ v=some x) (h2:ay E ρ r=some xs):ay E ρ (v::r)=some (x::xs):=by
 simp[ay,h1,h2]
theorem Mr (hl:ρ.Le ρ'):∀(s:SY) (x:Value),aJ E ρ s=some x→aJ E ρ' s=some x
 |.int k z,x,h=>h
 |.bool p,x,h=>h
 |.str l,x,h=>h
 |.imm ..,x,h=>h
 |.vl ..,x,h=>h
 |.pim ..,x,h=>h
 |.prow i n,x,h=>by
  simp only[aJ]at h ⊢
  rcases e:ρ i with _|e'
  ·rw[e]at h;cases h
  ·rw[e]at h;rw[hl i e' e];exact h
 |.psub i sz a n o oc,x,h=>by
  simp only[aJ]at h ⊢
  rcases e:ρ i with _|e'
  ·rw[e]at h;cases h
  ·rw[e]at h;rw[hl i e' e];exact h
 |.pfix i n c,x,h=>by
  simp only[aJ]at h ⊢
  rcases e:ρ i with _|e'
  ·rw[e]at h;cases h
  ·rw[e]at h;rw[hl i e' e];exact h
 |.kmp i,x,h=>by
  simp only[aJ]at h ⊢
  rcases e:ρ i with _|e'
  ·rw[e]at h;cases h
  ·rw[e]at h;rw[hl i e' e];exact h
 |.rptr i sz q o,x,h=>by
  simp only[aJ]at h ⊢
  rcases e:ρ i with _|e'
  ·rw[e]at h;cases h
  ·rw[e]at h;rw[hl i e' e];exact h
mutual
theorem dL (hl:ρ.Le ρ'):∀(v:AV) (x:Value),den E ρ v=some x→den E ρ' v=some x
 |.bad,x,h=>by simp[den]at h
 |.int k z,x,h=>by simpa[den] using h
 |.bool b,x,h=>by simpa[den] using h
 |.str l,x,h=>by simpa[den] using h
 |.nilP,x,h=>by simpa[den] using h
 |.nilS,x,h=>by simpa[den] using h
 |.nilM,x,h=>by simpa[den] using h
 |.nilF,x,h=>by simpa[den] using h
 |.nilI,x,h=>by simpa[den] using h
 |.ptr i o,x,h=>by
  unfold den at h ⊢
  rcases e:ρ i with _|e'
  ·rw[e]at h;cases h
  ·rw[e]at h;rw[hl i e' e];exact h
 |.sl i o n c,x,h=>by
  unfold den at h ⊢
  rcases e:ρ i with _|e'
  ·rw[e]at h;cases h
  ·rw[e]at h;rw[hl i e' e];exact h
 |.map i,x,h=>by
  unfold den at h ⊢
  rcases e:ρ i with _|e'
  ·rw[e]at h;cases h
  ·rw[e]at h;rw[hl i e' e];exact h
 |.yl i,x,h=>by
  unfold den at h ⊢
  rcases e:ρ i with _|e'
  ·rw[e]at h;cases h
  ·rw[e]at h;rw[hl i e' e];exact h
 |.any i,x,h=>by
  unfold den at h ⊢
  rcases e:ρ i with _|e'
  ·rw[e]at h;cases h
  ·rw[e]at h;rw[hl i e' e];exact h
 |.sy s,x,h=>by
  unfold den at h ⊢
  exact Mr hl s x h
 |.iface t v,x,h=>by
  unfold den at h ⊢
  rcases e:den E ρ v with _|y
  ·rw[e]at h;cases h
  ·rw[e]at h;rw[dL hl v y e];exact h
 |.fn f c,x,h=>by
  unfold den at h ⊢
  rcases e:ay E ρ c with _|y
  ·rw[e]at h;cases h
  ·rw[e]at h;rw[kn hl c y e];exact h
 |.agg c,x,h=>by
  unfold den at h ⊢
  rcases e:ay E ρ c with _|y
  ·rw[e]at h;cases h
  ·rw[e]at h;rw[kn hl c y e];exact h
 |.tup c,x,h=>by
  unfold den at h ⊢
  rcases e:ay E ρ c with _|y
  ·rw[e]at h;cases h
  ·rw[e]at h;rw[kn hl c y e];exact h
theorem kn (hl:ρ.Le ρ'):∀(l:List AV) (xs:List Value),ay E ρ l=some xs→ay E ρ' l=some xs
 |[],xs,h=>by simpa[ay] using h
 |v::r,xs,h=>by
  obtain⟨x,ys,h1,h2,rfl⟩:=bf h
  exact eR (dL hl v x h1) (kn hl r ys h2)
end
structure kG (ρ:Ren) (E E':Env):Prop where
 at_:∀i e,ρ i=some e→E' i=E i
 mem:MLe E.M E'.M
theorem QZ {E':Env} (hE:MLe E.M E'.M) {p:PL} {x:Value} (h:dQ E p=some x):dQ E' p=some x:=by
 obtain⟨h1,rfl⟩:=ep h
 exact fy (h1.mono hE)
theorem Ms {E':Env} (hE:MLe E.M E'.M) {ps:List PL} {xs:List Value} (h:jK E ps=some xs):jK E' ps=some xs:=by
 obtain⟨h1,rfl⟩:=pq h
 exact eI fun p hp=>(h1 p hp).mono hE
theorem QX {E':Env} (hE:MLe E.M E'.M):∀(s:SY) (x:Value),aJ E ρ s=some x→aJ E' ρ s=some x
 |.int k z,x,h=>h
 |.bool p,x,h=>h
 |.str l,x,h=>h
 |.imm ..,x,h=>QZ hE h
 |.pim b o cs,x,h=>by
  simp only[aJ]at h ⊢
  split at h
  ·rename_i hc
   rw[if_pos ⟨fun p hp=>(hc.1 p hp).mono hE,MRow.le hE hc.2⟩];exact h
  ·cases h
 |.prow i n,x,h=>h
 |.psub ..,x,h=>h
 |.rptr ..,x,h=>h
 |.pfix ..,x,h=>h
 |.kmp _,x,h=>h
 |.vl hv f α y enc,x,h=>by
  simp only[aJ]at h ⊢
  split at h
  ·rename_i hc
   rw[if_pos ⟨hc.1,fun q=>(hc.2 q).mono hE⟩];exact h
  ·cases h
mutual
theorem ez {E':Env} (hE:kG ρ E E'):∀(v:AV) (x:Value),den E ρ v=some x→den E' ρ v=some x
 |.bad,_,h=>by simp[den]at h
 |.int _ _,_,h|.bool _,_,h|.str _,_,h|.nilP,_,h|.nilS,_,h|.nilM,_,h|.nilF,_,h|.nilI,_,h|.ptr _ _,_,h|.sl _ _ _ _,_,h|.map _,_,h|.yl _,_,h=>by simpa[den] using h
 |.any i,x,h=>by
  unfold den at h ⊢
  rcases e:ρ i with _|e'
  ·rw[e]at h;cases h
  ·rw[e]at h;rw[hE.at_ i e' e];exact h
 |.sy s,x,h=>by
  unfold den at h ⊢
  exact QX hE.mem s x h
 |.iface t v,x,h=>by
  unfold den at h ⊢
  rcases e:den E ρ v with _|y
  ·rw[e]at h;cases h
  ·rw[e]at h;rw[ez hE v y e];exact h
 |.fn f c,x,h=>by
  unfold den at h ⊢
  rcases e:ay E ρ c with _|y
  ·rw[e]at h;cases h
  ·rw[e]at h;rw[mr hE c y e];exact h
 |.agg c,x,h=>by
  unfold den at h ⊢
  rcases e:ay E ρ c with _|y
  ·rw[e]at h;cases h
  ·rw[e]at h;rw[mr hE c y e];exact h
 |.tup c,x,h=>by
  unfold den at h ⊢
  rcases e:ay E ρ c with _|y
  ·rw[e]at h;cases h
  ·rw[e]at h;rw[mr hE c y e];exact h
theorem mr {E':Env} (hE:kG ρ E E'):∀(l:List AV) (xs:List Value),ay E ρ l=some xs→ay E' ρ l=some xs
 |[],xs,h=>by simpa[ay] using h
 |v::r,xs,h=>by
  obtain⟨x,ys,h1,h2,rfl⟩:=bf h
  exact eR (ez hE v x h1) (mr hE r ys h2)
end
theorem bA:∀{l:List AV} {xs:List Value},ay E ρ l=some xs→xs.length=l.length
 |[],xs,h=>by simp[ay]at h;subst h;rfl
 |v::r,xs,h=>by
  obtain⟨x,ys,h1,h2,rfl⟩:=bf h
  simp[bA h2]
theorem dl:∀{l m:List AV} {xs ys:List Value},ay E ρ l=some xs→ay E ρ m=some ys→ay E ρ (l++m)=some (xs++ys)
 |[],m,xs,ys,h,h2=>by simp[ay]at h;subst h;simpa using h2
 |v::r,m,xs,ys,h,h2=>by
  obtain⟨x,zs,h3,h4,rfl⟩:=bf h
  exact eR h3 (dl h4 h2)
theorem dy:∀{l m:List AV} {zs:List Value},ay E ρ (l++m)=some zs→∃xs ys,ay E ρ l=some xs∧ay E ρ m=some ys∧zs=xs++ys
 |[],m,zs,h=>⟨[],zs,by simp[ay],by simpa using h,by simp⟩
 |v::r,m,zs,h=>by
  obtain⟨x,ws,h3,h4,rfl⟩:=bf (r:=r++m) h
  obtain⟨xs,ys,h5,h6,rfl⟩:=dy h4
  exact⟨x::xs,ys,eR h3 h5,h6,rfl⟩
theorem eS:∀{l:List AV} {xs:List Value} {i:Nat} {v:AV},ay E ρ l=some xs→l[i]?=some v→∃x,den E ρ v=some x∧xs[i]?=some x
 |[],xs,i,v,h,hi=>by simp at hi
 |u::r,xs,0,v,h,hi=>by
  obtain⟨x,ys,h1,h2,rfl⟩:=bf h
  simp at hi;subst hi
  exact⟨x,h1,rfl⟩
 |u::r,xs,i+1,v,h,hi=>by
  obtain⟨x,ys,h1,h2,rfl⟩:=bf h
  obtain⟨y,h3,h4⟩:=eS h2 (by simpa using hi)
  exact⟨y,h3,by simpa using h4⟩
theorem kg {l:List AV} {xs:List Value} (n:Nat) (h:ay E ρ l=some xs):ay E ρ (l.take n)=some (xs.take n):=by
 have h':=h
 rw[←List.take_append_drop n l]at h'
 obtain⟨a,b,h1,h2,rfl⟩:=dy h'
 have:=bA h1
 have h3:=bA h
 rw[h1]
 by_cases hn:n≤l.length
 ·rw[ami,Nat.min_eq_left hn]at this
  rw[List.take_left' this]
 ·rw[List.drop_eq_nil_of_le (by omega)]at h2
  simp[ay]at h2
  subst h2
  simp only[List.append_nil]at h3 ⊢
  rw[List.take_of_length_le (by omega)]
theorem iB {l:List AV} {xs:List Value} (n:Nat) (h:ay E ρ l=some xs):ay E ρ (l.drop n)=some (xs.drop n):=by
 have h':=h
 rw[←List.take_append_drop n l]at h'
 obtain⟨a,b,h1,h2,rfl⟩:=dy h'
 have:=bA h1
 have h3:=bA h
 rw[h2]
 by_cases hn:n≤l.length
 ·rw[ami,Nat.min_eq_left hn]at this
  rw[List.drop_left' this]
 ·have h4:b=[]:=by
   rw[List.drop_eq_nil_of_le (by omega)]at h2
   simpa[ay] using h2.symm
  subst h4
  simp only[List.append_nil]at h3 ⊢
  rw[List.drop_eq_nil_of_le (by omega)]
end
section
variable {E:Env} {ρ:Ren}
noncomputable def rZ (p:PL):AV:=PL.casesOn p (fun k z=>.int k z) (fun b=>.bool b) (fun l=>.str l) .nilP .nilS .nilM .nilF .nilI (fun k z=>.sy (.int k z)) (fun p=>.sy (.bool p)) (fun l=>.sy (.str l)) (fun h sz α l enc=>.sy (.imm h sz α l enc)) (fun v=>.sy (.vl v false Unit none fun _=>[]))
theorem EG {p:PL} (h:OkP E.M p):den E ρ (rZ p)=some (aQ p):=by
 cases p with
 |imm=>exact fy h
 |raw v=>
  cases h with
  |raw h=>
   show aJ E ρ (.vl v false Unit none fun _=>[])=some v
   simp only[aJ]
   rw[if_pos ⟨h,fun q=>by cases q⟩]
 |_=>rfl
noncomputable def kw (l:List PL):List AV:=List.rec [] (fun p _ ih=>rZ p::ih) l
theorem Bu:∀{l:List PL},(∀p∈l,OkP E.M p)→ay E ρ (kw l)=some (l.map aQ)
 |[],_=>rfl
 |p::l,h=>eR (EG (h p (by simp))) (Bu fun q hq=>h q (by simp[hq]))
end
noncomputable def aU (ag:Bool) (ps:List PL):AV:=bif ag then .agg (kw ps) else rZ (ps.headD .nilP)
theorem EH {E E':Env} {ρ ρ':Ren} (hM:E'.M=E.M) {p:PL} {x:Value} (h:den E ρ (rZ p)=some x):den E' ρ' (rZ p)=some x:=by
 cases p with
 |imm hv sz α l enc=>
  have h:dQ E (.imm hv sz α l enc)=some x:=h
  show dQ E' (.imm hv sz α l enc)=some x
  unfold dQ at h ⊢
  rw[hM];exact h
 |raw v=>
  have h:aJ E ρ (.vl v false Unit none fun _=>[])=some x:=h
  show aJ E' ρ' (.vl v false Unit none fun _=>[])=some x
  simp only[aJ]at h ⊢
  rw[hM];exact h
 |_=>exact h
theorem Bv {E E':Env} {ρ ρ':Ren} (hM:E'.M=E.M):∀{l:List PL} {xs:List Value},ay E ρ (kw l)=some xs→ay E' ρ' (kw l)=some xs
 |[],xs,h=>h
 |p::l,xs,h=>by
  have h:ay E ρ (rZ p::kw l)=some xs:=h
  show ay E' ρ' (rZ p::kw l)=some xs
  unfold ay at h ⊢
  rcases h1:den E ρ (rZ p) with _|y
  ·simp[h1]at h
  rcases h2:ay E ρ (kw l) with _|ys
  ·simp[h1,h2]at h
  rw[EH hM h1,Bv hM h2]
  rw[h1,h2]at h
  exact h
theorem tI {E E':Env} {ρ ρ':Ren} (hM:E'.M=E.M) {ag:Bool} {ps:List PL} {x:Value} (h:den E ρ (aU ag ps)=some x):den E' ρ' (aU ag ps)=some x:=by
 cases ag with
 |false=>exact EH hM h
 |true=>
  have h:den E ρ (.agg (kw ps))=some x:=h
  show den E' ρ' (.agg (kw ps))=some x
  unfold den at h ⊢
  rcases h2:ay E ρ (kw ps) with _|ys
  ·simp[h2]at h
  rw[Bv hM h2]
  rw[h2]at h
  exact h
inductive AObj:Type 1
 |blk (grow:Bool) (T sz:Nat) (els:List (List AV))
 |map (es:List (AV×AV×Nat)) (clock:Nat)
 |iter (m:Option Nat) (since:Nat) (seen:List Nat) (stepped:Nat)
 |defs
 |prow (T sz:Nat) (α:Type) (l:List α) (enc:α→List PL)
 |kmap (sure ak av:Bool) (α:Type) (l:List α) (k v:α→List PL)
 |kit (i:Nat) (ak av:Bool) (α:Type) (l:List α) (k v:α→List PL) (bs seen:List Nat) (cl:Nat)
 |opq (α:Type) (x:α) (Φ:α→dS→aH→Prop)
def BR:AObj→Prop
 |.opq ..=>True
 |_=>False
def BOk (es:List (AV×AV×Nat)) (cl:Nat):Prop:=(es.map (fun e=>e.2.2)).Nodup∧∀e∈es,e.2.2<cl
noncomputable def bp (E:Env) (ρ:Ren):List (AV×AV×Nat)→Option (List MapEntry)
 |[]=>some []
 |(k,v,b)::r=>match den E ρ k,den E ρ v,bp E ρ r with
  |some x,some y,some es=>some (⟨x,y,b⟩::es)
  |_,_,_=>none
def ORel (E:Env) (ρ:Ren) (e:cM):AObj→Obj→Prop
 |.blk g T sz els,o=>(∀l∈els,l.length=sz)∧0<sz∧∃arr xs,o= .cells arr T (0,0)∧ay E ρ els.flatten=some xs∧
   (bif g then arr.size=e.cap*sz∧arr.toList.take (els.length*sz)=xs∧els.length≤e.cap∧e.cap≤maxLen else arr.toList=xs)
 |.map es cl,o=>∃ms,bp E ρ es=some ms∧o= .map ms.toArray cl
 |.iter m since seen stepped,o=>∃mb,(match m with|none=>mb=none|some i=>∃f,ρ i=some f∧mb=some f.b)∧o= .mapIter mb since seen.toArray stepped
 |.defs,o=>o= .deferred (some [])
 |.prow T sz α l enc,o=>∃arr xs,o= .cells arr T (0,0)∧0<sz∧(∀x∈l,(enc x).length=sz)∧jK E (l.flatMap enc)=some xs∧arr.size=(e.cap - 1)*sz∧arr.toList.take (l.length*sz)=xs∧l.length≤e.cap - 1∧e.cap - 1≤maxLen
 |.kmap sure ak av α l k v,o=>∃es cl ms,es.map (fun e=>(e.1,e.2.1))=l.map (fun x=>(aU ak (k x),aU av (v x)))∧bp E ρ es=some ms∧o= .map ms.toArray cl∧BOk es cl
 |.kit i _ _ _ _ _ _ _ seen cl,o=>∃f,ρ i=some f∧o= .mapIter (some f.b) cl seen.toArray cl
 |.opq ..,_=>False
def bC (e:cM):AObj→Bool
 |.prow ..=> !Nat.beq e.cap 0
 |.kmap sure _ _ _ _ _ _=>sure|| !Nat.beq e.cap 0
 |.opq ..=>false
 |_=>true
def uf:AObj→Prop
 |.prow _ sz _ l _=>l=[]∧0<sz
 |.kmap sure _ _ _ l _ _=>sure=false∧l=[]
 |.opq ..=>True
 |_=>False
theorem tV {E E':Env} {ρ:Ren} (hE:kG ρ E E'):∀(es:List (AV×AV×Nat)) (ms:List MapEntry),bp E ρ es=some ms→bp E' ρ es=some ms
 |[],ms,h=>by simpa[bp] using h
 |(k,v,b)::r,ms,h=>by
  unfold bp at h ⊢
  rcases h1:den E ρ k with _|x
  ·simp[h1]at h
  rcases h2:den E ρ v with _|y
  ·simp[h1,h2]at h
  rcases h3:bp E ρ r with _|zs
  ·simp[h1,h2,h3]at h
  rw[ez hE k x h1,ez hE v y h2,tV hE r zs h3]
  rw[h1,h2,h3]at h
  exact h
theorem ORel.env {E E':Env} {ρ:Ren} (hE:kG ρ E E') {e:cM}:∀{o:AObj} {ob:Obj},ORel E ρ e o ob→ORel E' ρ e o ob
 |.blk g T sz els,ob,⟨h0,h1,arr,xs,h2,h3,h4⟩=>⟨h0,h1,arr,xs,h2,mr hE _ _ h3,h4⟩
 |.map es cl,ob,⟨ms,h1,h2⟩=>⟨ms,tV hE _ _ h1,h2⟩
 |.iter none since seen stepped,ob,h=>h
 |.iter (some i) since seen stepped,ob,h=>h
 |.defs,ob,h=>h
 |.prow T sz α l enc,ob,⟨arr,xs,h1,h2,h3,h4,h5⟩=>⟨arr,xs,h1,h2,h3,Ms hE.mem h4,h5⟩
 |.kmap sure ak av α l k v,ob,⟨es,cl,ms,h1,h2,h3⟩=>⟨es,cl,ms,h1,tV hE _ _ h2,h3⟩
 |.kit ..,ob,h=>h
 |.opq ..,ob,h=>h
theorem tX {E E':Env} {ρ ρ':Ren} (hM:E'.M=E.M) {α:Type} {ak av:Bool} {k v:α→List PL}:∀{l:List α} {es:List (AV×AV×Nat)} {ms:List MapEntry},es.map (fun e=>(e.1,e.2.1))=l.map (fun x=>(aU ak (k x),aU av (v x)))→bp E ρ es=some ms→bp E' ρ' es=some ms
 |[],[],ms,_,h=>h
 |[],_::_,ms,h1,_=>by simp at h1
 |_::_,[],ms,h1,_=>by simp at h1
 |x::l,(a,b,c)::es,ms,h1,h=>by
  simp only[al9,List.cons.injEq,Prod.mk.injEq]at h1
  obtain⟨⟨rfl,rfl⟩,h1⟩:=h1
  unfold bp at h ⊢
  rcases q1:den E ρ (aU ak (k x)) with _|y
  ·simp[q1]at h
  rcases q2:den E ρ (aU av (v x)) with _|z
  ·simp[q1,q2]at h
  rcases q3:bp E ρ es with _|zs
  ·simp[q1,q2,q3]at h
  rw[tI hM q1,tI hM q2,tX hM h1 q3]
  rw[q1,q2,q3]at h
  exact h
theorem qL {E:Env} {ρ ρ':Ren} (hl:ρ.Le ρ'):∀(es:List (AV×AV×Nat)) (ms:List MapEntry),bp E ρ es=some ms→bp E ρ' es=some ms
 |[],ms,h=>by simpa[bp] using h
 |(k,v,b)::r,ms,h=>by
  unfold bp at h ⊢
  rcases h1:den E ρ k with _|x
  ·simp[h1]at h
  rcases h2:den E ρ v with _|y
  ·simp[h1,h2]at h
  rcases h3:bp E ρ r with _|zs
  ·simp[h1,h2,h3]at h
  rw[dL hl k x h1,dL hl v y h2,qL hl r zs h3]
  rw[h1,h2,h3]at h
  exact h
theorem ORel.mono {E:Env} {ρ ρ':Ren} (hl:ρ.Le ρ') {e:cM}:∀{o:AObj} {ob:Obj},ORel E ρ e o ob→ORel E ρ' e o ob
 |.blk g T sz els,ob,⟨h0,h1,arr,xs,h2,h3,h4⟩=>⟨h0,h1,arr,xs,h2,kn hl _ _ h3,h4⟩
 |.map es cl,ob,⟨ms,h1,h2⟩=>⟨ms,qL hl _ _ h1,h2⟩
 |.iter none since seen stepped,ob,h=>h
 |.iter (some i) since seen stepped,ob,⟨mb,⟨f,h1,h3⟩,h2⟩=>⟨mb,⟨f,hl _ _ h1,h3⟩,h2⟩
 |.defs,ob,h=>h
 |.prow T sz α l enc,ob,h=>h
 |.kmap sure ak av α l k v,ob,⟨es,cl,ms,h1,h2,h3⟩=>⟨es,cl,ms,h1,qL hl _ _ h2,h3⟩
 |.kit i ..,ob,⟨f,h1,h2⟩=>⟨f,hl _ _ h1,h2⟩
 |.opq ..,ob,h=>h
theorem ORel.notQ {E:Env} {ρ:Ren} {e:cM}:∀{o:AObj} {ob:Obj},ORel E ρ e o ob→¬BR o
 |.opq ..,_,h,_=>h
 |.blk ..,_,_,q|.map ..,_,_,q|.iter ..,_,_,q|.defs,_,_,q|.prow ..,_,_,q|.kmap ..,_,_,q|.kit ..,_,_,q=>q
inductive T:Type 1
 |leaf
 |node (l:T) (v:Option AObj) (r:T)
noncomputable def T.get (t:T):Nat→Option AObj:=
 T.rec (fun _=>none) (fun _ v _ gl gr n=>Nat.rec v (fun m _=>Bool.rec (gr (Nat.div m 2)) (gl (Nat.div m 2)) (Nat.beq (Nat.mod m 2) 0)) n) t
theorem T.get_leaf (n:Nat):T.leaf.get n=none:=rfl
theorem T.get_even (l:T) (v:Option AObj) (r:T) (m:Nat) (h:m % 2=0):(T.node l v r).get (m+1)=l.get (m / 2):=by
 show Bool.rec (motive:=fun _=>Option AObj) (T.get r (Nat.div m 2)) (T.get l (Nat.div m 2)) (Nat.beq (Nat.mod m 2) 0)=_
 rw[show Nat.mod m 2=0 from h];rfl
theorem T.get_odd (l:T) (v:Option AObj) (r:T) (m:Nat) (h:m % 2=1):(T.node l v r).get (m+1)=r.get (m / 2):=by
 show Bool.rec (motive:=fun _=>Option AObj) (T.get r (Nat.div m 2)) (T.get l (Nat.div m 2)) (Nat.beq (Nat.mod m 2) 0)=_
 rw[show Nat.mod m 2=1 from h];rfl
noncomputable def T.set (fuel:Nat):T→Nat→Option AObj→(T→Bool)→Bool:=
 Nat.rec (fun _ _ _ _=>false) (fun _ ih t n o K=>
  T.casesOn t
   (Nat.casesOn n (K (.node .leaf o .leaf)) fun m=>Bool.rec (ih .leaf (Nat.div m 2) o fun r=>K (.node .leaf none r)) (ih .leaf (Nat.div m 2) o fun l=>K (.node l none .leaf)) (Nat.beq (Nat.mod m 2) 0))
   (fun l v r=>Nat.casesOn n (K (.node l o r)) fun m=>Bool.rec (ih r (Nat.div m 2) o fun r'=>K (.node l v r')) (ih l (Nat.div m 2) o fun l'=>K (.node l' v r)) (Nat.beq (Nat.mod m 2) 0))) fuel
theorem T.set_ok:∀(fuel:Nat) (t:T) (n:Nat) (o:Option AObj) (K:T→Bool),T.set fuel t n o K=true→∃t',K t'=true∧t'.get n=o∧∀m,m≠n→t'.get m=t.get m
 |0,t,n,o,K,h=>by cases h
 |f+1,t,n,o,K,h=>by
  have half:∀m:Nat,m % 2=0∨m % 2=1:=fun m=>by omega
  have key:∀(l:T) (v:Option AObj) (r:T),(∀m,(T.node l v r).get m=t.get m)→
    Nat.casesOn (motive:=fun _=>Bool) n (K (.node l o r)) (fun m=>Bool.rec (T.set f r (Nat.div m 2) o fun r'=>K (.node l v r')) (T.set f l (Nat.div m 2) o fun l'=>K (.node l' v r)) (Nat.beq (Nat.mod m 2) 0))=true→
    ∃t',K t'=true∧t'.get n=o∧∀m,m≠n→t'.get m=t.get m:=by
   intro l v r hg h
   cases n with
   |zero=>
    refine⟨_,h,rfl,fun m hm=> ?_⟩
    rw[←hg]
    cases m with
    |zero=>exact absurd rfl hm
    |succ m=>
     rcases half m with e|e
     ·rw[T.get_even _ _ _ _ e,T.get_even _ _ _ _ e]
     ·rw[T.get_odd _ _ _ _ e,T.get_odd _ _ _ _ e]
   |succ n=>
    rcases half n with e|e
    ·have h':T.set f l (n / 2) o (fun l'=>K (.node l' v r))=true:=by
      have:Nat.beq (Nat.mod n 2) 0=true:=by rw[show Nat.mod n 2=0 from e];rfl
      simp only[this]at h
      exact h
     obtain⟨l',h1,h2,h3⟩:=T.set_ok f _ _ _ _ h'
     refine⟨_,h1,by rw[T.get_even _ _ _ _ e];exact h2,fun m hm=> ?_⟩
     rw[←hg]
     cases m with
     |zero=>rfl
     |succ m=>
      rcases half m with e'|e'
      ·rw[T.get_even _ _ _ _ e',T.get_even _ _ _ _ e']
       exact h3 _ (fun q=>hm (by omega))
      ·rw[T.get_odd _ _ _ _ e',T.get_odd _ _ _ _ e']
    ·have h':T.set f r (n / 2) o (fun r'=>K (.node l v r'))=true:=by
      have:Nat.beq (Nat.mod n 2) 0=false:=by rw[show Nat.mod n 2=1 from e];rfl
      simp only[this]at h
      exact h
     obtain⟨l',h1,h2,h3⟩:=T.set_ok f _ _ _ _ h'
     refine⟨_,h1,by rw[T.get_odd _ _ _ _ e];exact h2,fun m hm=> ?_⟩
     rw[←hg]
     cases m with
     |zero=>rfl
     |succ m=>
      rcases half m with e'|e'
      ·rw[T.get_even _ _ _ _ e',T.get_even _ _ _ _ e']
      ·rw[T.get_odd _ _ _ _ e',T.get_odd _ _ _ _ e']
       exact h3 _ (fun q=>hm (by omega))
  cases t with
  |leaf=>
   refine key .leaf none .leaf (fun m=> ?_) h
   cases m with
   |zero=>rfl
   |succ m=>
    rcases half m with e|e
    ·rw[T.get_even _ _ _ _ e];rfl
    ·rw[T.get_odd _ _ _ _ e];rfl
  |node l v r=>exact key l v r (fun _=>rfl) h
def Tied (_:dS):Prop:=True
theorem Tied.mono {M M':dS} (_:MLe M M') (_:Tied M):Tied M':=trivial
def Oq (M:T) (m:dS) (D:aH):Prop:=∀i α x Φ,M.get i=some (.opq α x Φ)→∃m0,MLe m0 m∧Φ x m0 D
theorem Oq.sub {M M':T} {m m':dS} {D:aH} (h:Oq M m D) (hm:MLe m m') (hs:∀j o,M'.get j=some o→M.get j=some o):Oq M' m' D:=fun i α x Φ hi=>by
 obtain⟨m0,h1,h2⟩:=h i α x Φ (hs i _ hi)
 exact⟨m0,h1.trans hm,h2⟩
theorem Oq.at_ {M M':T} {m:dS} {D:aH} {i:Nat} {o':AObj} (h:Oq M m D) (h1:M'.get i=some o') (hn:¬BR o') (h2:∀j,j≠i→∀o,M'.get j=some o→M.get j=some o):Oq M' m D:=fun j α x Φ hj=>by
 by_cases q:j=i
 ·subst q
  rw[h1]at hj;cases hj
  exact absurd trivial hn
 ·exact h j α x Φ (h2 j q _ hj)
structure Sim (E:Env) (ρ:Ren) (G:GS) (F:List aH) (M:T) (nx:Nat) (w:World):Prop where
 ex:∃(D:aH) (F':List aH) (c:aH),F'=D::F∧Oq M E.M D∧Holds {G with M:=E.M} w (c::F')∧(∀i o,M.get i=some o→∃e,ρ i=some e∧((bC e o=true∧∃ob,(e.b,ob)∈c∧ORel E ρ e o ob)∨(bC e o=false∧uf o)))∧
  (∀i j e f o o',M.get i=some o→M.get j=some o'→ρ i=some e→ρ j=some f→bC e o=true→bC f o'=true→e.b=f.b→i=j)
 mem:MLe G.M E.M
 fresh:∀i,nx≤i→ρ i=none
section
variable {E:Env} {ρ:Ren} {G:GS} {F:List aH} {M:T} {nx:Nat} {w:World}
theorem Sim.gone (h:Sim E ρ G F M nx w) {i:Nat} (hi:ρ i=none):M.get i=none:=by
 obtain⟨D_,F_,c,hF_,hq_,_,ho,_⟩:=h.ex
 rcases e:M.get i with _|o
 ·rfl
 ·obtain⟨f,h1,_⟩:=ho i o e
  rw[hi]at h1;cases h1
theorem Sim.obj (h:Sim E ρ G F M nx w) {i:Nat} {o:AObj} (hi:M.get i=some o) (hb:∀e,bC e o=true:=by intro e;rfl):∃e ob,ρ i=some e∧w.heap[e.b]?=some ob∧ORel E ρ e o ob:=by
 obtain⟨D_,F_,c,hF_,hq_,hh,ho,_⟩:=h.ex
 obtain⟨e,h1,⟨_,ob,h2,h3⟩|⟨q,_⟩⟩:=ho i o hi
 ·exact⟨e,ob,h1,hh.own (e.b,ob) (by simp only[al8,amh];exact .inl h2),h3⟩
 ·rw[hb e]at q;cases q
theorem Sim.objP (h:Sim E ρ G F M nx w) {i:Nat} {o:AObj} (hi:M.get i=some o):∃e,ρ i=some e∧((bC e o=true∧∃ob,w.heap[e.b]?=some ob∧ORel E ρ e o ob)∨(bC e o=false∧uf o)):=by
 obtain⟨D_,F_,c,hF_,hq_,hh,ho,_⟩:=h.ex
 obtain⟨e,h1,⟨q,ob,h2,h3⟩|q⟩:=ho i o hi
 ·exact⟨e,h1,.inl ⟨q,ob,hh.own (e.b,ob) (by simp only[al8,amh];exact .inl h2),h3⟩⟩
 ·exact⟨e,h1,.inr q⟩
theorem Sim.start (hm:E.M=G.M) (hh:Holds G w F):Sim E (fun _=>none) G F T.leaf 0 w:=
 ⟨⟨[],_,[],rfl,fun i α x Φ hi=>by simp[T.get_leaf]at hi,by rw[hm];exact hh.nil.nil,fun i o h=>by simp[T.get_leaf]at h,fun i j e f o o' h=>by simp[T.get_leaf]at h⟩,by rw[hm];exact MLe.refl _,fun _ _=>rfl⟩
theorem Sim.cellM (h:Sim E ρ G F M nx w) {b o:Nat} {v:Value} (hm:gn E.M b o=some v):w.cell? ⟨b,o,none⟩=some v:=by
 obtain⟨D_,F_,c,hF_,hq_,hh,_⟩:=h.ex
 exact hh.cellM (G:={G with M:=E.M}) hm
theorem Sim.alloc (h:Sim E ρ G F M nx w) {i nx' cap:Nat} {o:AObj} {ob:Obj} {M':T} (hi:ρ i=none) (hn:nx≤nx') (hin:i<nx') (hr:ORel E ρ ⟨w.heap.size,cap⟩ o ob)
  (h1:M'.get i=some o) (h2:∀m,m≠i→M'.get m=M.get m) (hB:bC ⟨w.heap.size,cap⟩ o=true:=by rfl):Sim E (ρ.set i ⟨w.heap.size,cap⟩) G F M' nx' (w.alloc ob):=by
 have hg:=h.gone hi
 obtain⟨D_,F_,c,hF_,hq_,hh,ho,hj⟩:=h.ex
 have hle:=Ren.le_set (ρ:=ρ) ⟨w.heap.size,cap⟩ hi
 have hlt:∀j o',M.get j=some o'→∀e,ρ j=some e→bC e o'=true→e.b<w.heap.size:=by
  intro j o' hj' e he hb
  obtain⟨f,hf,⟨_,ob',hm,_⟩|⟨q,_⟩⟩:=ho j o' hj'
  ·rw[he]at hf;cases hf
   exact bn (hh.own (e.b,ob') (by simp only[al8,amh];exact .inl hm))
  ·rw[he]at hf;cases hf
   rw[hb]at q;cases q
 refine⟨⟨D_,F_,(w.heap.size,ob)::c,hF_,hq_.at_ h1 hr.notQ (fun m q o hm=>by rw[←h2 m q];exact hm),(hh.alloc ob).perm (by simp),fun j o' hj'=> ?_,fun j k e f o1 o2 hj1 hk1 he hf hb1 hb2 hb=> ?_⟩,h.mem,fun j hjn=> ?_⟩
 ·by_cases e:j=i
  ·subst e
   rw[h1]at hj';cases hj'
   exact⟨_,Ren.set_self _ _ _,.inl ⟨hB,ob,by simp,hr.mono hle⟩⟩
  ·rw[h2 j e]at hj'
   obtain⟨f,a1,⟨a0,ob',a2,a3⟩|q⟩:=ho j o' hj'
   ·exact⟨f,hle _ _ a1,.inl ⟨a0,ob',by simp[a2],a3.mono hle⟩⟩
   ·exact⟨f,hle _ _ a1,.inr q⟩
 ·by_cases e1:j=i
  ·by_cases e2:k=i
   ·omega
   ·exfalso
    subst e1
    rw[Ren.set_self]at he;cases he
    rw[Ren.set_ne _ e2]at hf
    rw[h2 k e2]at hk1
    have:=hlt k o2 hk1 f hf hb2
    simp only at hb
    omega
  ·by_cases e2:k=i
   ·exfalso
    subst e2
    rw[Ren.set_self]at hf;cases hf
    rw[Ren.set_ne _ e1]at he
    rw[h2 j e1]at hj1
    have:=hlt j o1 hj1 e he hb1
    simp only at hb
    omega
   ·rw[Ren.set_ne _ e1]at he
    rw[Ren.set_ne _ e2]at hf
    rw[h2 j e1]at hj1
    rw[h2 k e2]at hk1
    exact hj j k e f o1 o2 hj1 hk1 he hf hb1 hb2 hb
 ·rw[Ren.set_ne _ (by omega)]
  exact h.fresh j (by omega)
def sU (b:Nat) (ob:Obj) (c:aH):aH:=c.map fun p=>if p.1=b then (b,ob) else p
theorem JV (b:Nat) (ob:Obj) (c:aH):(sU b ob c).map (·.1)=c.map (·.1):=by
 unfold sU
 rw[List.map_map]
 refine List.map_congr_left fun p _=> ?_
 simp only[Function.comp]
 split
 ·rename_i h;exact h.symm
 ·rfl
theorem Pi {b:Nat} {ob:Obj} {c:aH} {p:Nat×Obj} (h:p∈sU b ob c):p=(b,ob)∨(p∈c∧p.1≠b):=by
 unfold sU at h
 obtain⟨q,hq,rfl⟩:=List.mem_map.1 h
 split
 ·exact .inl rfl
 ·rename_i hne;exact .inr ⟨hq,hne⟩
theorem Od {b:Nat} {ob o:Obj} {c:aH} (h:(b,o)∈c):(b,ob)∈sU b ob c:=List.mem_map.2 ⟨(b,o),h,by simp⟩
theorem Oc {b:Nat} {ob:Obj} {c:aH} {p:Nat×Obj} (h:p∈c) (hne:p.1≠b):p∈sU b ob c:=List.mem_map.2 ⟨p,h,by simp[hne]⟩
theorem Sim.turn (h:Sim E ρ G F M nx w) {i:Nat} {o o':AObj} {e:cM} {ob':Obj} {M':T} {w':World} (hi:M.get i=some o) (he:ρ i=some e) (hos:w'.os=w.os) (ht:w'.tape=w.tape) (hou:w'.output=w.output)
  (hel:∀b,b<w.heap.size→b≠e.b→w'.heap[b]?=w.heap[b]?) (hob:w'.heap[e.b]?=some ob') (hr:ORel E ρ e o' ob')
  (h1:M'.get i=some o') (h2:∀m,m≠i→M'.get m=M.get m) (hB:bC e o=true:=by rfl) (hB':bC e o'=true:=by rfl):Sim E ρ G F M' nx w':=by
 obtain⟨D_,F_,c,hF_,hq_,hh,ho,hj⟩:=h.ex
 obtain⟨f,a1,⟨_,ob,a2,a3⟩|⟨q,_⟩⟩:=ho i o hi
 case inr=>rw[he]at a1;cases a1;rw[hB]at q;cases q
 rw[he]at a1;cases a1
 refine⟨⟨D_,F_,sU e.b ob' c,hF_,hq_.at_ h1 hr.notQ (fun m q o hm=>by rw[←h2 m q];exact hm),hh.turn hos ht hou (JV _ _ _) (fun b hb hn=>hel b hb fun q=>hn (q▸List.mem_map.2 ⟨_,a2,rfl⟩)) (fun p hp=> ?_),fun j o2 hj2=> ?_,fun j k e' f' o1 o2 hj1 hk1 he1 hf1 hb1 hb2=> ?_⟩,h.mem,h.fresh⟩
 ·rcases Pi hp with rfl|⟨hp,hne⟩
  ·exact hob
  ·have:=hh.own p (by simp only[al8,amh];exact .inl hp)
   rw[hel p.1 (bn this) hne];exact this
 ·by_cases q:j=i
  ·subst q
   rw[h1]at hj2;cases hj2
   exact⟨e,he,.inl ⟨hB',ob',Od a2,hr⟩⟩
  ·rw[h2 j q]at hj2
   obtain⟨f',b1,⟨b0,ob2,b2,b3⟩|b4⟩:=ho j o2 hj2
   ·refine⟨f',b1,.inl ⟨b0,ob2,Oc b2 fun hb=>q ?_,b3⟩⟩
    exact hj j i f' e _ _ hj2 hi b1 he b0 hB hb
   ·exact⟨f',b1,.inr b4⟩
 ·by_cases q1:j=i
  ·by_cases q2:k=i
   ·intro _;rw[q1,q2]
   ·subst q1
    rw[h1]at hj1;cases hj1
    rw[h2 k q2]at hk1
    rw[he]at he1;cases he1
    exact hj j k e f' _ _ hi hk1 he hf1 hB hb2
  ·by_cases q2:k=i
   ·subst q2
    rw[h1]at hk1;cases hk1
    rw[h2 j q1]at hj1
    rw[he]at hf1;cases hf1
    exact hj j k e' e _ _ hj1 hi he1 he hb1 hB
   ·rw[h2 j q1]at hj1
    rw[h2 k q2]at hk1
    exact hj j k e' f' _ _ hj1 hk1 he1 hf1 hb1 hb2
theorem Sim.regrow (h:Sim E ρ G F M nx w) {i j nx' cap:Nat} {old:Option Nat} {o':AObj} {b':Nat} {ob':Obj} {M':T} {w':World} (hj:ρ j=none) (hn:nx≤nx') (hjn:j<nx')
  (hold:∀b,old=some b→∃e o,M.get i=some o∧ρ i=some e∧e.b=b∧bC e o=true) (hg:w.grownBy w' old) (hw:w'.heap[b']?=some ob') (hb':old=some b'∨w.heap.size≤b') (hr:ORel E ρ ⟨b',cap⟩ o' ob')
  (h1:M'.get j=some o') (h2:∀m,m≠j→m≠i→M'.get m=M.get m) (h3:i≠j→M'.get i=none) (hB':bC ⟨b',cap⟩ o'=true:=by rfl):Sim E (ρ.set j ⟨b',cap⟩) G F M' nx' w':=by
 have hgone:=h.gone hj
 obtain⟨D_,F_,c,hF_,hq_,hh,ho,hinj⟩:=h.ex
 have hle:=Ren.le_set (ρ:=ρ) ⟨b',cap⟩ hj
 have hF:=hh.drop
 have hn0:=hh.nodup
 simp only[al8,amg]at hn0
 have hdis:=(List.nodup_append.1 hn0).2.2
 have hcn:=(List.nodup_append.1 hn0).1
 have hblk:∀p∈c,p.1<w.heap.size:=fun p hp=>bn (hh.own p (by simp only[al8,amh];exact .inl hp))
 have hkeep:∀b,b<w.heap.size→old≠some b→w'.heap[b]?=w.heap[b]?:=fun b hb hne=>hg.block b hb (fun e=>hne e.symm)
 have holdc:∀b,old=some b→b∈c.map (·.1):=by
  intro b hb
  obtain⟨e,o,m1,m2,m3,m4⟩:=hold b hb
  obtain⟨f,a1,⟨_,ob,a2,_⟩|⟨q,_⟩⟩:=ho i o m1
  ·rw[m2]at a1;cases a1
   exact List.mem_map.2 ⟨_,a2,m3⟩
  ·rw[m2]at a1;cases a1
   rw[m4]at q;cases q
 have hnotM:∀b o2,E.M b=some o2→old≠some b:=by
  intro b o2 hM hb
  obtain⟨p,hp,hpb⟩:=List.mem_map.1 (holdc b hb)
  have:=hh.apart p (by simp only[al8,amh];exact .inl hp)
  rw[hpb]at this
  have:E.M b=none:=this
  rw[hM]at this;cases this
 have hc':∀p,p∈c.filter (fun p=>decide (old≠some p.1))→p∈c∧old≠some p.1:=fun p hp=>by
  have:=List.mem_filter.1 hp
  exact⟨this.1,by simpa using this.2⟩
 refine⟨⟨D_,F_,(b',ob')::c.filter (fun p=>decide (old≠some p.1)),hF_,hq_.at_ h1 hr.notQ (fun m q o hm=>by
   by_cases q2:m=i
   ·subst q2
    rw[h3 q]at hm;cases hm
   ·rw[←h2 m q q2];exact hm),⟨hg.os.trans hh.os,hg.tape.trans hh.tape,hg.output.trans hh.output,fun b o2 hM=> ?_,fun p hp=> ?_,?_,fun p hp=> ?_⟩,fun k o2 hk=> ?_,fun k l e f o1 o2 hk hl he hf hb1 hb2 hb=> ?_⟩,h.mem,fun k hk=> ?_⟩
 ·have hM':E.M b=some o2:=hM
  have:=hh.mem b o2 hM
  rw[hkeep b (bn this) (hnotM b o2 hM')];exact this
 ·simp only[al8,ama,List.mem_cons,amh]at hp
  rcases hp with rfl|hp|hp
  ·exact hw
  ·obtain⟨hp1,hp2⟩:=hc' p hp
   have:=hh.own p (by simp only[al8,amh];exact .inl hp1)
   rw[hkeep p.1 (bn this) hp2];exact this
  ·have:=hF.own p hp
   rw[hkeep p.1 (bn this) fun e=>hdis _ (holdc _ e) _ (List.mem_map_of_mem hp) rfl];exact this
 ·simp only[al8,ama,al9,amg,List.nodup_cons]
  refine⟨fun hm=> ?_,?_⟩
  ·rcases amh.1 hm with hm|hm
   ·obtain⟨p,hp,hpb⟩:=List.mem_map.1 hm
    obtain⟨hp1,hp2⟩:=hc' p hp
    rcases hb' with e|e
    ·exact hp2 (hpb▸e)
    ·have:=hblk p hp1;omega
   ·obtain⟨p,hp,hpb⟩:=List.mem_map.1 hm
    rcases hb' with e|e
    ·exact hdis _ (holdc _ e) _ (List.mem_map_of_mem hp) hpb.symm
    ·have:=bn (hF.own p hp);omega
  ·refine List.nodup_append.2 ⟨?_,hF.nodup,fun x hx y hy=> ?_⟩
   ·exact hcn.sublist (List.Sublist.map _ List.filter_sublist)
   ·refine hdis x ?_ y hy
    obtain⟨p,hp,rfl⟩:=List.mem_map.1 hx
    exact List.mem_map_of_mem (hc' p hp).1
 ·simp only[al8,ama,List.mem_cons,amh]at hp
  show E.M p.1=none
  rcases hp with rfl|hp|hp
  ·rcases e:E.M b' with _|o2
   ·rfl
   ·rcases hb' with q|q
    ·exact absurd q (hnotM b' o2 e)
    ·have:=bn (hh.mem b' o2 e);omega
  ·exact hh.apart p (by simp only[al8,amh];exact .inl (hc' p hp).1)
  ·exact hF.apart p hp
 ·by_cases q:k=j
  ·subst q
   rw[h1]at hk;cases hk
   exact⟨_,Ren.set_self _ _ _,.inl ⟨hB',ob',by simp,hr.mono hle⟩⟩
  ·by_cases q2:k=i
   ·subst q2
    rw[h3 q]at hk;cases hk
   ·rw[h2 k q q2]at hk
    obtain⟨f,a1,⟨a0,ob2,a2,a3⟩|a4⟩:=ho k o2 hk
    ·refine⟨f,hle _ _ a1,.inl ⟨a0,ob2,?_,a3.mono hle⟩⟩
     refine List.mem_cons_of_mem _ (List.mem_filter.2 ⟨a2,?_⟩)
     simp only[decide_eq_true_eq]
     intro hb
     obtain⟨e,o,m1,m2,m3,m4⟩:=hold _ hb
     exact q2 (hinj k i f e _ _ hk m1 a1 m2 a0 m4 m3.symm)
    ·exact⟨f,hle _ _ a1,.inr a4⟩
 ·have nb:∀m f' om,M.get m=some om→m≠i→ρ m=some f'→bC f' om=true→f'.b≠b':=by
   intro m f' om hm hmi hf' hbm hbb
   obtain⟨f2,a1,⟨_,ob2,a2,_⟩|⟨q,_⟩⟩:=ho m om hm
   ·rw[hf']at a1;cases a1
    rcases hb' with q|q
    ·obtain⟨e,o,m1,m2,m3,m4⟩:=hold _ q
     exact hmi (hinj m i f' e _ _ hm m1 hf' m2 hbm m4 (by rw[m3];exact hbb))
    ·have:=hblk _ a2
     simp only at this
     omega
   ·rw[hf']at a1;cases a1
    rw[hbm]at q;cases q
  by_cases q1:k=j
  ·by_cases q2:l=j
   ·omega
   ·exfalso
    subst q1
    rw[Ren.set_self]at he;cases he
    rw[Ren.set_ne _ q2]at hf
    by_cases q3:l=i
    ·subst q3;rw[h3 q2]at hl;cases hl
    ·rw[h2 l q2 q3]at hl
     exact nb l f _ hl q3 hf hb2 hb.symm
  ·by_cases q2:l=j
   ·exfalso
    subst q2
    rw[Ren.set_self]at hf;cases hf
    rw[Ren.set_ne _ q1]at he
    by_cases q3:k=i
    ·subst q3;rw[h3 q1]at hk;cases hk
    ·rw[h2 k q1 q3]at hk
     exact nb k e _ hk q3 he hb1 hb
   ·rw[Ren.set_ne _ q1]at he
    rw[Ren.set_ne _ q2]at hf
    by_cases q3:k=i
    ·subst q3;rw[h3 q1]at hk;cases hk
    ·by_cases q4:l=i
     ·subst q4;rw[h3 q2]at hl;cases hl
     ·rw[h2 k q1 q3]at hk
      rw[h2 l q2 q4]at hl
      exact hinj k l e f _ _ hk hl he hf hb1 hb2 hb
 ·rw[Ren.set_ne _ (by omega)]
  exact h.fresh k (by omega)
theorem Sim.ext (h:Sim E ρ G F M nx w) {w':World} (hb:Below w.heap.size w w'):Sim E ρ G F M nx w':=by
 obtain⟨D_,F_,c,hF_,hq_,hh,ho,hj⟩:=h.ex
 exact⟨⟨D_,F_,c,hF_,hq_,hh.ext hb,ho,hj⟩,h.mem,h.fresh⟩
theorem Sim.drawn (h:Sim E ρ G F M nx w):Sim E ρ G F M nx {w with drawn:=w.drawn+1}:=by
 obtain⟨D_,F_,c,hF_,hq_,hh,ho,hj⟩:=h.ex
 exact⟨⟨D_,F_,c,hF_,hq_,hh.drawn,ho,hj⟩,h.mem,h.fresh⟩
theorem Sim.more (h:Sim E ρ G F M nx w) {nx':Nat} (hn:nx≤nx'):Sim E ρ G F M nx' w:=⟨h.ex,h.mem,fun i hi=>h.fresh i (by omega)⟩
theorem Sim.holds (h:Sim E ρ G F M nx w):∃G',G.Le G'∧Holds G' w F∧G'.M=E.M:=by
 obtain⟨D_,F_,c,hF_,hq_,hh,_⟩:=h.ex
 subst hF_
 exact⟨{G with M:=E.M},⟨rfl,rfl,rfl,h.mem⟩,hh.drop.drop,rfl⟩
end
inductive SL
 |nil
 |cons (t:Nat) (v:AV) (r:SL)
 |mark (i:Nat) (r:SL)
noncomputable def aS (t:Nat) (S:SL):AV:=SL.rec .bad (fun k v _ ih=>Bool.rec ih v (Nat.beq k t)) (fun _ _ ih=>ih) S
theorem dq (t:Nat) (v:AV) (r:SL):aS t (.cons t v r)=v:=by
 show Bool.rec (motive:=fun _=>AV) (aS t r) v (Nat.beq t t)=v
 rw[Nat.beq_refl]
theorem ey {t k:Nat} (v:AV) (r:SL) (h:k≠t):aS t (.cons k v r)=aS t r:=by
 show Bool.rec (motive:=fun _=>AV) (aS t r) v (Nat.beq k t)=aS t r
 have:Nat.beq k t=false:=by
  cases hb:Nat.beq k t with
  |false=>rfl
  |true=>exact absurd (al6 hb) h
 rw[this]
def HS:SL→List Nat
 |.nil=>[]
 |.cons _ _ r=>HS r
 |.mark i r=>i::HS r
def DRel (ρ:Ren):List Nat→List Deferred→Prop
 |[],ds=>ds=[]
 |i::r,ds=>∃e ds',ρ i=some e∧ds={target:=.collected e.b,args:= #[]}::ds'∧DRel ρ r ds'
theorem DRel.mono {ρ ρ':Ren} (hl:ρ.Le ρ'):∀{l:List Nat} {ds:List Deferred},DRel ρ l ds→DRel ρ' l ds
 |[],_,h=>h
 |_::_,_,⟨e,ds',h1,h2,h3⟩=>⟨e,ds',hl _ _ h1,h2,h3.mono hl⟩
structure al1 (E:Env) (ρ:Ren) (N:Nat) (S:SL) (a:Act):Prop where
 size:a.tmps.size=N
 at_:∀t x,den E ρ (aS t S)=some x→a.tmps.getD t undef=x
 defs:DRel ρ (HS S) a.defers
section
variable {E:Env} {ρ ρ':Ren} {N:Nat} {S:SL} {a:Act}
def bz (E:Env) (ρ:Ren) (S:SL):Prop:=∀t x ρ',ρ.Le ρ'→den E ρ' (aS t S)=some x→den E ρ (aS t S)=some x
end
def Good (P:Program) (Tg:Machine→Prop) (m:Machine):Prop:=∃m',Steps P m m'∧Tg m'
theorem Good.step {P:Program} {Tg:Machine→Prop} {m m1:Machine} (h:step P m= .next m1) (g:Good P Tg m1):Good P Tg m:=by
 obtain⟨m',h1,h2⟩:=g
 exact⟨m',.head h h1,h2⟩
noncomputable def fN (n:Nat) (K:Nat→Bool):Bool:=Nat.rec (K 0) (fun m _=>K (Nat.succ m)) n
theorem bt (n:Nat) (K:Nat→Bool):fN n K=K n:=by cases n<;>rfl
noncomputable def fI (z:Int) (K:Int→Bool):Bool:=Int.casesOn z (fun n=>fN n fun n=>K (.ofNat n)) (fun n=>fN n fun n=>K (.negSucc n))
theorem rE (z:Int) (K:Int→Bool):fI z K=K z:=by
 cases z with
 |ofNat n=>exact bt n fun n=>K (.ofNat n)
 |negSucc n=>exact bt n fun n=>K (.negSucc n)
noncomputable def fB (b:Bool) (K:Bool→Bool):Bool:=Bool.rec (K false) (K true) b
theorem nm (b:Bool) (K:Bool→Bool):fB b K=K b:=by cases b<;>rfl
noncomputable def aM (b:Bool) (x y:Bool):Bool:=Bool.rec y x b
theorem vj (b x y:Bool):aM b x y=bif b then x else y:=by cases b<;>rfl
theorem aL {b x y:Bool} (h:aM b x y=true):(b=true∧x=true)∨(b=false∧y=true):=by
 cases b
 ·exact .inr ⟨rfl,h⟩
 ·exact .inl ⟨rfl,h⟩
noncomputable def ae (b:Bool) (x:Bool):Bool:=Bool.rec false x b
theorem ac {b x:Bool} (h:ae b x=true):b=true∧x=true:=by
 cases b
 ·cases h
 ·exact⟨rfl,h⟩
noncomputable def fD (v:AV) (K:Nat→Int→Bool):Bool:=AV.casesOn v false K (fun _=>false) (fun _=>false) (fun _ _=>false) (fun _ _ _ _=>false) (fun _=>false) false false false false false (fun _ _=>false) (fun _ _=>false) (fun _=>false) (fun _=>false) (fun _=>false) (fun _=>false) (fun _=>false)
theorem eZ {v:AV} {K:Nat→Int→Bool} (h:fD v K=true):∃k z,v= .int k z∧K k z=true:=by cases v<;>first|exact⟨_,_,rfl,h⟩|cases h
noncomputable def GB (v:AV) (K:Bool→Bool):Bool:=AV.casesOn v false (fun _ _=>false) K (fun _=>false) (fun _ _=>false) (fun _ _ _ _=>false) (fun _=>false) false false false false false (fun _ _=>false) (fun _ _=>false) (fun _=>false) (fun _=>false) (fun _=>false) (fun _=>false) (fun _=>false)
theorem vF {v:AV} {K:Bool→Bool} (h:GB v K=true):∃b,v= .bool b∧K b=true:=by cases v<;>first|exact⟨_,rfl,h⟩|cases h
noncomputable def jh (v:AV) (K:List Nat→Bool):Bool:=AV.casesOn v false (fun _ _=>false) (fun _=>false) K (fun _ _=>false) (fun _ _ _ _=>false) (fun _=>false) false false false false false (fun _ _=>false) (fun _ _=>false) (fun _=>false) (fun _=>false) (fun _=>false) (fun _=>false) (fun _=>false)
theorem fg {v:AV} {K:List Nat→Bool} (h:jh v K=true):∃l,v= .str l∧K l=true:=by cases v<;>first|exact⟨_,rfl,h⟩|cases h
noncomputable def fO (v:AV) (K:Nat→Nat→Bool):Bool:=AV.casesOn v false (fun _ _=>false) (fun _=>false) (fun _=>false) K (fun _ _ _ _=>false) (fun _=>false) false false false false false (fun _ _=>false) (fun _ _=>false) (fun _=>false) (fun _=>false) (fun _=>false) (fun _=>false) (fun _=>false)
theorem eK {v:AV} {K:Nat→Nat→Bool} (h:fO v K=true):∃i o,v= .ptr i o∧K i o=true:=by cases v<;>first|exact⟨_,_,rfl,h⟩|cases h
noncomputable def kz (v:AV) (K0:Bool) (K:Nat→Nat→Nat→ACap→Bool):Bool:=AV.casesOn v false (fun _ _=>false) (fun _=>false) (fun _=>false) (fun _ _=>false) K (fun _=>false) false K0 false false false (fun _ _=>false) (fun _ _=>false) (fun _=>false) (fun _=>false) (fun _=>false) (fun _=>false) (fun _=>false)
theorem fC {v:AV} {K0:Bool} {K:Nat→Nat→Nat→ACap→Bool} (h:kz v K0 K=true):(v= .nilS∧K0=true)∨∃i o n c,v= .sl i o n c∧K i o n c=true:=by
 cases v<;>first|exact .inr ⟨_,_,_,_,rfl,h⟩|exact .inl ⟨rfl,h⟩|cases h
noncomputable def nr (v:AV) (K0:Bool) (K:Nat→Bool):Bool:=AV.casesOn v false (fun _ _=>false) (fun _=>false) (fun _=>false) (fun _ _=>false) (fun _ _ _ _=>false) K false false K0 false false (fun _ _=>false) (fun _ _=>false) (fun _=>false) (fun _=>false) (fun _=>false) (fun _=>false) (fun _=>false)
theorem il {v:AV} {K0:Bool} {K:Nat→Bool} (h:nr v K0 K=true):(v= .nilM∧K0=true)∨∃i,v= .map i∧K i=true:=by
 cases v<;>first|exact .inr ⟨_,rfl,h⟩|exact .inl ⟨rfl,h⟩|cases h
noncomputable def asAgg (v:AV) (K:List AV→Bool):Bool:=AV.casesOn v false (fun _ _=>false) (fun _=>false) (fun _=>false) (fun _ _=>false) (fun _ _ _ _=>false) (fun _=>false) false false false false false (fun _ _=>false) (fun _ _=>false) (fun _=>false) K (fun _=>false) (fun _=>false) (fun _=>false)
theorem dz {v:AV} {K:List AV→Bool} (h:asAgg v K=true):∃l,v= .agg l∧K l=true:=by cases v<;>first|exact⟨_,rfl,h⟩|cases h
noncomputable def UM (v:AV) (K:List AV→Bool):Bool:=AV.casesOn v false (fun _ _=>false) (fun _=>false) (fun _=>false) (fun _ _=>false) (fun _ _ _ _=>false) (fun _=>false) false false false false false (fun _ _=>false) (fun _ _=>false) (fun _=>false) (fun _=>false) K (fun _=>false) (fun _=>false)
theorem Rp {v:AV} {K:List AV→Bool} (h:UM v K=true):∃l,v= .tup l∧K l=true:=by cases v<;>first|exact⟨_,rfl,h⟩|cases h
noncomputable def bD (v:AV):List AV:=AV.casesOn v [.bad] (fun k z=>[.int k z]) (fun b=>[.bool b]) (fun l=>[.str l]) (fun i o=>[.ptr i o]) (fun i o n c=>[.sl i o n c]) (fun i=>[.map i]) [.nilP] [.nilS] [.nilM] [.nilF] [.nilI] (fun t v=>[.iface t v]) (fun f c=>[.fn f c]) (fun i=>[.yl i]) (fun l=>l) (fun l=>[.tup l]) (fun i=>[.any i]) (fun s=>[.sy s])
noncomputable def qa (v:AV):Bool:=AV.casesOn v false (fun _ _=>true) (fun _=>true) (fun _=>true) (fun _ _=>true) (fun _ _ _ _=>true) (fun _=>true) true true true true true (fun _ _=>true) (fun _ _=>true) (fun _=>true) (fun _=>false) (fun _=>false) (fun _=>true) (fun _=>true)
noncomputable def qV (l:List AV):Bool:=List.rec true (fun v _ ih=>Bool.rec false ih (qa v)) l
def cK (E:Env):Prop:=(∀i,Value.oneCell' (E i)=true)∧Tied E.M
section
variable {E:Env} {ρ:Ren}
theorem QY {p:PL} {x:Value} (h:dQ E p=some x):Value.oneCell' x=true∧x.cells= #[x]:=by
 obtain⟨h1,rfl⟩:=ep h
 cases h1 with
 |imm ao cap hh=>subst hh;exact⟨rfl,rfl⟩
 |raw hv=>
  rename_i v
  refine⟨hv,?_⟩
  cases v<;>first|rfl|(simp[Value.oneCell']at hv;done)
 |_=>exact⟨rfl,rfl⟩
theorem Cw {s:SY} {x:Value} (h:aJ E ρ s=some x):Value.oneCell' x=true∧x.cells= #[x]:=by
 cases s with
 |imm=>exact QY h
 |int k z=>cases h;exact⟨rfl,rfl⟩
 |bool p=>cases h;exact⟨rfl,rfl⟩
 |str l=>cases h;exact⟨rfl,rfl⟩
 |pim b o cs=>
  simp only[aJ]at h
  split at h
  ·cases h;exact⟨rfl,rfl⟩
  ·cases h
 |prow i n=>
  simp only[aJ]at h
  split at h
  ·unfold ii at h
   split at h
   ·split at h
    ·cases h;exact⟨rfl,rfl⟩
    ·cases h
   ·cases h;exact⟨rfl,rfl⟩
  ·cases h
 |psub i sz a n o oc=>
  simp only[aJ]at h
  split at h
  ·unfold gQ at h
   split at h
   ·split at h
    ·cases h;exact⟨rfl,rfl⟩
    ·cases h
   ·split at h
    ·cases h;exact⟨rfl,rfl⟩
    ·cases h
  ·cases h
 |pfix i n c=>
  simp only[aJ]at h
  split at h
  ·unfold kx at h
   split at h
   ·split at h
    ·cases h;exact⟨rfl,rfl⟩
    ·cases h
   ·cases h;exact⟨rfl,rfl⟩
  ·cases h
 |rptr i sz q o=>
  simp only[aJ]at h
  split at h
  ·cases h;exact⟨rfl,rfl⟩
  ·cases h
 |kmp i=>
  simp only[aJ]at h
  split at h
  ·cases h;exact⟨rfl,rfl⟩
  ·cases h
 |vl hv f α y enc=>
  simp only[aJ]at h
  split at h
  ·rename_i hc
   cases h
   refine⟨hc.1,?_⟩
   cases x<;>first|rfl|(cases hc.1;done)
  ·cases h
theorem tj (hE:cK E) {v:AV} {x:Value} (h:qa v=true) (hd:den E ρ v=some x):Value.oneCell' x=true:=by
 cases v<;>first|(cases h;done)|skip
 case int k z=>simp[den]at hd;subst hd;rfl
 case bool b=>simp[den]at hd;subst hd;rfl
 case str l=>simp[den]at hd;subst hd;rfl
 case nilP=>simp[den]at hd;subst hd;rfl
 case nilS=>simp[den]at hd;subst hd;rfl
 case nilM=>simp[den]at hd;subst hd;rfl
 case nilF=>simp[den]at hd;subst hd;rfl
 case nilI=>simp[den]at hd;subst hd;rfl
 case any i=>
  unfold den at hd
  split at hd<;>first|(cases hd;exact hE.1 i)|cases hd
 case sy s=>
  unfold den at hd
  exact(Cw hd).1
 all_goals
  unfold den at hd
  split at hd<;>first|(cases hd;rfl)|cases hd
theorem kV (hE:cK E):∀{l:List AV} {xs:List Value},qV l=true→ay E ρ l=some xs→xs.all Value.oneCell'=true
 |[],xs,_,h=>by simp[ay]at h;subst h;rfl
 |v::r,xs,ha,h=>by
  obtain⟨x,ys,h1,h2,rfl⟩:=bf h
  have ha':Bool.rec (motive:=fun _=>Bool) false (qV r) (qa v)=true:=ha
  have hv:qa v=true:=by
   cases q:qa v with
   |true=>rfl
   |false=>rw[q]at ha';cases ha'
  rw[hv]at ha'
  simp only[List.all_cons,aml]
  exact⟨tj hE hv h1,kV hE ha' h2⟩
theorem jg (hE:cK E) {v:AV} {x:Value} (hd:den E ρ v=some x):ay E ρ (bD v)=some x.cells.toList:=by
 cases v
 case agg l=>
  unfold den at hd
  split at hd
  ·rename_i cs h;cases hd;simpa[bD,Value.cells] using h
  ·cases hd
 case bad=>simp[den]at hd
 case int k z=>simp[den]at hd;subst hd;simp[bD,ay,den,Value.cells]
 case bool b=>simp[den]at hd;subst hd;simp[bD,ay,den,Value.cells]
 case str l=>simp[den]at hd;subst hd;simp[bD,ay,den,Value.cells]
 case nilP=>simp[den]at hd;subst hd;simp[bD,ay,den,Value.cells]
 case nilS=>simp[den]at hd;subst hd;simp[bD,ay,den,Value.cells]
 case nilM=>simp[den]at hd;subst hd;simp[bD,ay,den,Value.cells]
 case nilF=>simp[den]at hd;subst hd;simp[bD,ay,den,Value.cells]
 case nilI=>simp[den]at hd;subst hd;simp[bD,ay,den,Value.cells]
 case any i=>
  have hd':=hd
  unfold den at hd'
  split at hd'
  case h_2=>cases hd'
  cases hd'
  have:=hE.1 i
  simp only[bD,ay,hd]
  cases h:E i<;>rw[h]at this<;>first|(simp[Value.cells];done)|(simp[Value.oneCell']at this;done)
 case sy s=>
  have hd':=hd
  unfold den at hd'
  simp only[bD,ay,hd,(Cw hd').2]
 all_goals
  have hd':=hd
  unfold den at hd'
  split at hd'<;>first|(cases hd';simp[bD,ay,hd,Value.cells];done)|cases hd'
end
noncomputable def sj (k:Nat):Bool:=Nat.beq k 0||Nat.blt 4 k
noncomputable def lZ (k:Nat):Nat:=Nat.rec 9223372036854775808 (fun k _=>Nat.rec 256 (fun k _=>Nat.rec 65536 (fun k _=>Nat.rec 4294967296 (fun k _=>Nat.rec 18446744073709551616 (fun k _=>Nat.rec 2147483648 (fun k _=>Nat.rec 32768 (fun _ _=>128) k) k) k) k) k) k) k
noncomputable def inR (k:Nat) (z:Int):Bool:=Int.casesOn z (fun n=>Nat.blt n (lZ k)) (fun n=>sj k&&Nat.blt n (lZ k))
theorem PW {k:Nat} {z:Int} (h:inR k z=true):(ca k).wrap z=z:=by
 have hz:(0≤z→z<(lZ k:Int))∧(z<0→sj k=true∧ -(lZ k:Int)≤z):=by
  cases z with
  |ofNat n=>
   have:n<lZ k:=by
    have:Nat.blt n (lZ k)=true:=h
    simpa[amq] using this
   exact⟨fun _=>by simp only[Int.ofNat_eq_natCast];omega,fun hn=>by simp only[Int.ofNat_eq_natCast]at hn;omega⟩
  |negSucc n=>
   have h':(sj k&&Nat.blt n (lZ k))=true:=h
   simp only[aml,amq]at h'
   exact⟨fun hn=>by omega,fun _=>⟨h'.1,by have:=h'.2;omega⟩⟩
 match k with
 |0=>
  have hb:lZ 0=9223372036854775808:=rfl
  have hs:sj 0=true:=rfl
  rw[hb,hs]at hz
  have h1:=hz.1;have h2:=hz.2
  exact Ae (by omega) (by omega)
 |1=>
  have hb:lZ 1=256:=rfl
  have hs:sj 1=false:=rfl
  rw[hb,hs]at hz
  have h1:=hz.1;have h2:=hz.2
  have h2:¬z<0:=fun q=>by have:=(h2 q).1;cases this
  exact Ey (by omega) (by omega)
 |2=>
  have hb:lZ 2=65536:=rfl
  have hs:sj 2=false:=rfl
  rw[hb,hs]at hz
  have h1:=hz.1;have h2:=hz.2
  have h2:¬z<0:=fun q=>by have:=(h2 q).1;cases this
  exact Ad (by omega) (by omega)
 |3=>
  have hb:lZ 3=4294967296:=rfl
  have hs:sj 3=false:=rfl
  rw[hb,hs]at hz
  have h1:=hz.1;have h2:=hz.2
  have h2:¬z<0:=fun q=>by have:=(h2 q).1;cases this
  exact Ab (by omega) (by omega)
 |4=>
  have hb:lZ 4=18446744073709551616:=rfl
  have hs:sj 4=false:=rfl
  rw[hb,hs]at hz
  have h1:=hz.1;have h2:=hz.2
  have h2:¬z<0:=fun q=>by have:=(h2 q).1;cases this
  exact Aa (by omega) (by omega)
 |5=>
  have hb:lZ 5=2147483648:=rfl
  have hs:sj 5=true:=rfl
  rw[hb,hs]at hz
  have h1:=hz.1;have h2:=hz.2
  exact Af (by omega) (by omega)
 |6=>
  have hb:lZ 6=32768:=rfl
  have hs:sj 6=true:=rfl
  rw[hb,hs]at hz
  have h1:=hz.1;have h2:=hz.2
  exact IntWalk.i16_in z ⟨by omega,by omega⟩
 |k+7=>
  have hb:lZ (k+7)=128:=rfl
  rw[hb]at hz
  have h1:=hz.1;have h2:=hz.2
  exact IntWalk.i8_in z ⟨by omega,by omega⟩
noncomputable def mJ (k:Nat) (z:Int) (K:Int→Bool):Bool:=fI z fun z=>aM (inR k z) (K z) (fI ((ca k).wrap z) K)
theorem lG (k:Nat) (z:Int) (K:Int→Bool):mJ k z K=K ((ca k).wrap z):=by
 unfold mJ
 rw[rE,vj]
 cases h:inR k z with
 |true=>rw[cond_true,PW h]
 |false=>rw[cond_false,rE]
noncomputable def lX (a b:Int):Bool:=Int.casesOn a (fun m=>Int.casesOn b (fun n=>Nat.blt m n) (fun _=>false)) (fun m=>Int.casesOn b (fun _=>true) (fun n=>Nat.blt n m))
theorem oa (a b:Int):lX a b=decide (a<b):=by
 rw[Bool.eq_iff_iff,decide_eq_true_eq]
 cases a<;>cases b
 ·simp only[lX,amq,Int.ofNat_eq_natCast];omega
 ·simp only[lX,Int.ofNat_eq_natCast,Bool.false_eq_true,false_iff];omega
 ·simp only[lX,Int.ofNat_eq_natCast,true_iff];omega
 ·simp only[lX,amq];omega
noncomputable def mn (a b:Int):Bool:=Int.casesOn a (fun m=>Int.casesOn b (fun n=>Nat.beq m n) (fun _=>false)) (fun m=>Int.casesOn b (fun _=>false) (fun n=>Nat.beq m n))
theorem Hz (m n:Nat):Nat.beq m n=decide (m=n):=by
 rw[Bool.eq_iff_iff,decide_eq_true_eq,Nat.beq_eq]
theorem mj (a b:Int):mn a b=decide (a=b):=by
 rw[Bool.eq_iff_iff,decide_eq_true_eq]
 cases a<;>cases b
 ·simp only[mn,Nat.beq_eq,Int.ofNat_eq_natCast];omega
 ·simp only[mn,Int.ofNat_eq_natCast,Bool.false_eq_true,false_iff];omega
 ·simp only[mn,Int.ofNat_eq_natCast,Bool.false_eq_true,false_iff];omega
 ·simp only[mn,Nat.beq_eq];omega
noncomputable def bS {α:Type _} (l:List α):Nat→Option α:=List.rec (fun _=>none) (fun x _ ih n=>Nat.rec (some x) (fun m _=>ih m) n) l
theorem cx {α:Type _}:∀(l:List α) (n:Nat),bS l n=l[n]?
 |[],n=>by simp[bS]
 |x::l,0=>rfl
 |x::l,n+1=>by rw[List.getElem?_cons_succ,←cx l n];rfl
noncomputable def ou {α:Type _} (l:List α):Nat→List α:=List.rec (fun _=>[]) (fun x xs ih n=>Nat.rec (x::xs) (fun m _=>ih m) n) l
theorem mp {α:Type _}:∀(l:List α) (n:Nat),ou l n=l.drop n
 |[],n=>by simp[ou]
 |x::l,0=>rfl
 |x::l,n+1=>by rw[List.drop_succ_cons,←mp l n];rfl
noncomputable def tak {α:Type _} (l:List α):Nat→(List α→Bool)→Bool:=List.rec (fun n K=>Nat.rec (K []) (fun _ _=>false) n) (fun x _ ih n K=>Nat.rec (K []) (fun m _=>ih m fun r=>K (x::r)) n) l
theorem iL {α:Type _}:∀{l:List α} {n:Nat} {K:List α→Bool},tak l n K=true→K (l.take n)=true∧n≤l.length
 |[],0,K,h=>⟨h,by simp⟩
 |[],n+1,K,h=>by cases h
 |x::l,0,K,h=>⟨h,by simp⟩
 |x::l,n+1,K,h=>by
  have h':tak l n (fun r=>K (x::r))=true:=h
  obtain⟨h1,h2⟩:=iL h'
  exact⟨by simpa using h1,by simp;omega⟩
noncomputable def upd {α:Type _} (l:List α):Nat→List α→(List α→Bool)→Bool:=
 List.rec (fun n vs K=>List.casesOn vs (Nat.rec (K []) (fun _ _=>false) n) (fun _ _=>false))
  (fun x xs ih n vs K=>Nat.rec (List.casesOn vs (K (x::xs)) (fun v vs'=>ih 0 vs' fun r=>K (v::r))) (fun m _=>ih m vs fun r=>K (x::r)) n) l
theorem bG {α:Type _}:∀{l:List α} {n:Nat} {vs:List α} {K:List α→Bool},upd l n vs K=true→K (l.take n++vs++l.drop (n+vs.length))=true∧n+vs.length≤l.length
 |[],0,[],K,h=>⟨h,by simp⟩
 |[],n+1,[],K,h=>by cases h
 |[],n,v::vs,K,h=>by cases h
 |x::l,0,[],K,h=>⟨h,by simp⟩
 |x::l,0,v::vs,K,h=>by
  have h':upd l 0 vs (fun r=>K (v::r))=true:=h
  obtain⟨h1,h2⟩:=bG h'
  exact⟨by simpa using h1,by simp at h2 ⊢;omega⟩
 |x::l,n+1,vs,K,h=>by
  have h':upd l n vs (fun r=>K (x::r))=true:=h
  obtain⟨h1,h2⟩:=bG h'
  refine⟨?_,by simp;omega⟩
  rw[show n+1+vs.length=(n+vs.length)+1 by omega]
  simpa using h1
noncomputable def app {α:Type _} (l:List α) (m:List α) (K:List α→Bool):Bool:=List.rec (motive:=fun _=>(List α→Bool)→Bool) (fun K=>K m) (fun x _ ih K=>ih fun r=>K (x::r)) l K
theorem ox {α:Type _}:∀(l m:List α) (K:List α→Bool),app l m K=K (l++m)
 |[],m,K=>rfl
 |x::l,m,K=>by
  have:app (x::l) m K=app l m (fun r=>K (x::r)):=rfl
  rw[this,ox l m];rfl
noncomputable def cj {α:Type _} (l:List α):Nat:=List.rec 0 (fun _ _ ih=>Nat.succ ih) l
theorem bB {α:Type _}:∀(l:List α),cj l=l.length
 |[]=>rfl
 |x::l=>by
  have:cj (x::l)=Nat.succ (cj l):=rfl
  rw[this,bB l];rfl
noncomputable def yL (l m:List Nat):Bool:=List.rec (motive:=fun _=>List Nat→Bool) (fun m=>List.casesOn m true (fun _ _=>false)) (fun x _ ih m=>List.casesOn m false (fun y r=>Bool.rec false (ih r) (Nat.beq x y))) l m
theorem ot:∀(l m:List Nat),yL l m=decide (l=m)
 |[],[]=>rfl
 |[],_::_=>rfl
 |_::_,[]=>rfl
 |x::l,y::m=>by
  have:yL (x::l) (y::m)=Bool.rec (motive:=fun _=>Bool) false (yL l m) (Nat.beq x y):=rfl
  rw[this,ot l m,Hz]
  by_cases h:x=y
  ·subst h;by_cases h2:l=m<;>simp[h2]
  ·simp[h]
noncomputable def dx (v:AV):Bool:=AV.casesOn v false (fun _ _=>false) (fun _=>false) (fun _=>false) (fun _ _=>false) (fun _ _ _ _=>false) (fun _=>false) false false false false false (fun _ _=>false) (fun _ _=>false) (fun _=>false) (fun _=>false) (fun _=>false) (fun _=>false) (fun _=>true)
noncomputable def ej (v:AV) (K:SY→Bool):Bool:=AV.casesOn v false (fun _ _=>false) (fun _=>false) (fun _=>false) (fun _ _=>false) (fun _ _ _ _=>false) (fun _=>false) false false false false false (fun _ _=>false) (fun _ _=>false) (fun _=>false) (fun _=>false) (fun _=>false) (fun _=>false) K
theorem co {v:AV} {K:SY→Bool} (h:ej v K=true):∃s,v= .sy s∧K s=true:=by cases v<;>first|exact⟨_,rfl,h⟩|cases h
noncomputable def iE (v:AV) (K:Nat→Int→Bool):Bool:=AV.casesOn v false K (fun _=>false) (fun _=>false) (fun _ _=>false) (fun _ _ _ _=>false) (fun _=>false) false false false false false (fun _ _=>false) (fun _ _=>false) (fun _=>false) (fun _=>false) (fun _=>false) (fun _=>false)
 fun s=>SY.casesOn s K (fun _=>false) (fun _=>false) (fun _ _ _ _ _=>false) (fun _ _ _=>false) (fun _ _=>false) (fun _ _ _ _ _ _=>false) (fun _ _ _ _=>false) (fun _ _ _=>false) (fun _=>false) (fun _ _ _ _ _=>false)
theorem fA {E:Env} {ρ:Ren} {v:AV} {K:Nat→Int→Bool} {x:Value} (hd:den E ρ v=some x) (h:iE v K=true):∃k z,x= .int (ca k) z∧K k z=true:=by
 cases v<;>first|(cases h;done)|skip
 case int k z=>cases hd;exact⟨k,z,rfl,h⟩
 case sy s=>
  cases s<;>first|(cases h;done)|skip
  case int k z=>cases hd;exact⟨k,z,rfl,h⟩
noncomputable def Jn (v:AV) (K:Bool→Bool):Bool:=AV.casesOn v false (fun _ _=>false) K (fun _=>false) (fun _ _=>false) (fun _ _ _ _=>false) (fun _=>false) false false false false false (fun _ _=>false) (fun _ _=>false) (fun _=>false) (fun _=>false) (fun _=>false) (fun _=>false)
 fun s=>SY.casesOn s (fun _ _=>false) (fun p=>aM (aq p) (K true) (K false)) (fun _=>false) (fun _ _ _ _ _=>false) (fun _ _ _=>false) (fun _ _=>false) (fun _ _ _ _ _ _=>false) (fun _ _ _ _=>false) (fun _ _ _=>false) (fun _=>false) (fun _ _ _ _ _=>false)
theorem xG {E:Env} {ρ:Ren} {v:AV} {K:Bool→Bool} {x:Value} (hd:den E ρ v=some x) (h:Jn v K=true):∃b,x= .bool b∧K b=true:=by
 cases v<;>first|(cases h;done)|skip
 case bool b=>cases hd;exact⟨b,rfl,h⟩
 case sy s=>
  cases s<;>first|(cases h;done)|skip
  case bool p=>
   cases hd
   rcases aL h with⟨q,g⟩|⟨q,g⟩
   ·exact⟨true,by rw[q],g⟩
   ·exact⟨false,by rw[q],g⟩
noncomputable def qT (v:AV) (K:List UInt8→Bool):Bool:=AV.casesOn v false (fun _ _=>false) (fun _=>false) (fun l=>K (l.map UInt8.ofNat)) (fun _ _=>false) (fun _ _ _ _=>false) (fun _=>false) false false false false false (fun _ _=>false) (fun _ _=>false) (fun _=>false) (fun _=>false) (fun _=>false) (fun _=>false)
 fun s=>SY.casesOn s (fun _ _=>false) (fun _=>false) K (fun _ _ _ _ _=>false) (fun _ _ _=>false) (fun _ _=>false) (fun _ _ _ _ _ _=>false) (fun _ _ _ _=>false) (fun _ _ _=>false) (fun _=>false) (fun _ _ _ _ _=>false)
theorem gW {E:Env} {ρ:Ren} {v:AV} {K:List UInt8→Bool} {x:Value} (hd:den E ρ v=some x) (h:qT v K=true):∃l,x=S l∧K l=true:=by
 cases v<;>first|(cases h;done)|skip
 case str l=>cases hd;exact⟨_,rfl,h⟩
 case sy s=>
  cases s<;>first|(cases h;done)|skip
  case str l=>cases hd;exact⟨l,rfl,h⟩
noncomputable def Rq (v:AV) (K:Prop→Bool):Bool:=AV.casesOn v false (fun _ _=>false) (fun b=>K (b=true)) (fun _=>false) (fun _ _=>false) (fun _ _ _ _=>false) (fun _=>false) false false false false false (fun _ _=>false) (fun _ _=>false) (fun _=>false) (fun _=>false) (fun _=>false) (fun _=>false)
 fun s=>SY.casesOn s (fun _ _=>false) K (fun _=>false) (fun _ _ _ _ _=>false) (fun _ _ _=>false) (fun _ _=>false) (fun _ _ _ _ _ _=>false) (fun _ _ _ _=>false) (fun _ _ _=>false) (fun _=>false) (fun _ _ _ _ _=>false)
theorem Gz {E:Env} {ρ:Ren} {v:AV} {K:Prop→Bool} {x:Value} (hd:den E ρ v=some x) (h:Rq v K=true):∃p,x= .bool (aq p)∧K p=true:=by
 cases v<;>first|(cases h;done)|skip
 case bool b=>cases hd;exact⟨b=true,by rw[oH],h⟩
 case sy s=>
  cases s<;>first|(cases h;done)|skip
  case bool p=>cases hd;exact⟨p,rfl,h⟩
noncomputable def aj {α:Sort _} (f:α→Bool):Bool:=aq (∀x,f x=true)
noncomputable def ee {α:Sort _} (f:α→Bool):Bool:=aq (∃x,f x=true)
theorem aV {α:Sort _} {f:α→Bool} (h:aj f=true):∀x,f x=true:=prB_true.1 h
theorem aR {α:Sort _} {f:α→Bool} (h:∀x,f x=true):aj f=true:=prB_true.2 h
theorem bk {α:Sort _} {f:α→Bool} (h:ee f=true):∃x,f x=true:=prB_true.1 h
theorem aY {α:Sort _} {f:α→Bool} (x:α) (h:f x=true):ee f=true:=prB_true.2 ⟨x,h⟩
theorem dI {b x:Bool} (h1:b=true) (h2:x=true):ae b x=true:=by subst h1;exact h2
theorem aN {p:Prop} {x:Bool} (h1:p) (h2:x=true):ae (aq p) x=true:=dI (prB_true.2 h1) h2
theorem ai {p:Prop} {x:Bool} (h:ae (aq p) x=true):p∧x=true:=⟨prB_true.1 (ac h).1,(ac h).2⟩
theorem ifP {p:Prop} {x y:Bool} (h1:p→x=true) (h2:¬p→y=true):aM (aq p) x y=true:=by
 by_cases h:p
 ·rw[show aq p=true from prB_true.2 h];exact h1 h
 ·rw[show aq p=false from prB_false.2 h];exact h2 h
theorem eG {p:Prop} {x y:Bool} (h:aM (aq p) x y=true):(p∧x=true)∨(¬p∧y=true):=by
 rcases aL h with⟨q,g⟩|⟨q,g⟩
 ·exact .inl ⟨prB_true.1 q,g⟩
 ·exact .inr ⟨prB_false.1 q,g⟩
def gX (k:Nat) (z:Int):Prop:=match k with
 |0=> -9223372036854775808≤z∧z≤9223372036854775807
 |1=>0≤z∧z≤255
 |2=>0≤z∧z≤65535
 |3=>0≤z∧z≤4294967295
 |4=>0≤z∧z≤18446744073709551615
 |5=> -2147483648≤z∧z≤2147483647
 |6=> -32768≤z∧z≤32767
 |_=> -128≤z∧z≤127
theorem Sl {k:Nat} {z:Int} (h:gX k z):(ca k).wrap z=z:=by
 match k,h with
 |0,h=>exact Ae h.1 h.2
 |1,h=>exact Ey h.1 h.2
 |2,h=>exact Ad h.1 h.2
 |3,h=>exact Ab h.1 h.2
 |4,h=>exact Aa h.1 h.2
 |5,h=>exact Af h.1 h.2
 |6,h=>exact IntWalk.i16_in z h
 |k+7,h=>exact IntWalk.i8_in z h
noncomputable def lW (k:Nat) (z:Int) (K:AV→Bool):Bool:=ae (aq (gX k z)) (K (.sy (.int k z)))
theorem lx {E:Env} {ρ:Ren} {k:Nat} {z:Int} {K:AV→Bool} (h:lW k z K=true):(ca k).wrap z=z∧K (.sy (.int k z))=true∧den E ρ (.sy (.int k z))=some (.int (ca k) z):=
 ⟨Sl (ai h).1,(ai h).2,rfl⟩
def gC:Nat→BinOp
 |0=>.add|1=>.sub|2=>.mul|3=>.quo|_=>.rem
noncomputable def arX (o:Nat) (v1 v2:AV) (K:AV→Bool):Bool:=
 fD v1 fun k a=>fD v2 fun k2 b=>ae (Nat.beq k k2) (
  Nat.rec (mJ k (Int.add a b) fun z=>K (.int k z)) (fun o _=>
  Nat.rec (mJ k (Int.sub a b) fun z=>K (.int k z)) (fun o _=>
  Nat.rec (mJ k (Int.mul a b) fun z=>K (.int k z)) (fun o _=>
  Nat.rec (aM (mn b 0) false (mJ k (Int.tdiv a b) fun z=>K (.int k z))) (fun _ _=>
  aM (mn b 0) false (fI (Int.tmod a b) fun z=>K (.int k z))) o) o) o) o)
def ua:Nat→BinOp
 |0=>.and|1=>.or|2=>.xor|_=>.andNot
def rJ (o:Nat) (k:Nat) (a b:Int):Int:=
 let x:=BitVec.ofInt (ca k).bits a
 let y:=BitVec.ofInt (ca k).bits b
 (ca k).wrap (match o with|0=>(x&&& y).toNat|1=>(x|||y).toNat|2=>(x ^^^ y).toNat|_=>(x&&& ~~~y).toNat)
noncomputable def Rj (o:Nat) (v1 v2:AV) (K:AV→Bool):Bool:=
 fD v1 fun k a=>fD v2 fun k2 b=>ae (Nat.beq k k2) (fI (rJ o k a b) fun z=>K (.int k z))
noncomputable def shX (right:Bool) (v1 v2:AV) (K:AV→Bool):Bool:=
 fD v1 fun k a=>fD v2 fun _ b=>aM (lX b 0) false (aM right (fI (Int.fdiv a (2 ^ (min b.toNat (ca k).bits))) fun z=>K (.int k z)) (mJ k (Int.mul a (2 ^ (min b.toNat (ca k).bits))) fun z=>K (.int k z)))
theorem iK {v1 v2:AV} {f:Nat→Int→Int→Bool} (h:(fD v1 fun k a=>fD v2 fun k2 b=>ae (Nat.beq k k2) (f k a b))=true):∃k a b,v1= .int k a∧v2= .int k b∧f k a b=true:=by
 obtain⟨k,a,e1,h1⟩:=eZ h
 obtain⟨k2,b,e2,h2⟩:=eZ h1
 obtain⟨h3,h4⟩:=ac h2
 have:=al6 h3
 subst this
 exact⟨k,a,b,e1,e2,h4⟩
theorem Vd {v1 v2:AV} {f:Nat→Int→Nat→Int→Bool} (h:(fD v1 fun k a=>fD v2 fun k2 b=>f k a k2 b)=true):∃k a k2 b,v1= .int k a∧v2= .int k2 b∧f k a k2 b=true:=by
 obtain⟨k,a,e1,h1⟩:=eZ h
 obtain⟨k2,b,e2,h2⟩:=eZ h1
 exact⟨k,a,k2,b,e1,e2,h2⟩
theorem ahj {P:Program} {E:Env} {ρ:Ren} {o:Nat} {v1 v2:AV} {K:AV→Bool} {x y:Value} (h1:den E ρ v1=some x) (h2:den E ρ v2=some y) (h:arX o v1 v2 K=true) (t:TypeId) (p q:Operand):
  ∃v z,den E ρ v=some z∧K v=true∧∀w,((do eqGuard (gC o) t p q x y;binOp (gC o) t x y):Sem Value).run P w= .ok z w:=by
 match o with
 |0=>
  obtain⟨k,a,b,rfl,rfl,g⟩:=iK (f:=fun k a b=>mJ k (Int.add a b) fun z=>K (.int k z)) h
  rw[lG]at g
  cases h1;cases h2
  exact⟨_,_,rfl,g,fun w=>by simp[gC,eqGuard,binOp,Op.intArith]<;>rfl⟩
 |1=>
  obtain⟨k,a,b,rfl,rfl,g⟩:=iK (f:=fun k a b=>mJ k (Int.sub a b) fun z=>K (.int k z)) h
  rw[lG]at g
  cases h1;cases h2
  exact⟨_,_,rfl,g,fun w=>by simp[gC,eqGuard,binOp,Op.intArith]<;>rfl⟩
 |2=>
  obtain⟨k,a,b,rfl,rfl,g⟩:=iK (f:=fun k a b=>mJ k (Int.mul a b) fun z=>K (.int k z)) h
  rw[lG]at g
  cases h1;cases h2
  exact⟨_,_,rfl,g,fun w=>by simp[gC,eqGuard,binOp,Op.intArith]<;>rfl⟩
 |3=>
  obtain⟨k,a,b,rfl,rfl,g⟩:=iK (f:=fun k a b=>aM (mn b 0) false (mJ k (Int.tdiv a b) fun z=>K (.int k z))) h
  rcases aL g with⟨_,g⟩|⟨hb,g⟩
  ·cases g
  rw[mj,decide_eq_false_iff_not]at hb
  rw[lG]at g
  cases h1;cases h2
  exact⟨_,_,rfl,g,fun w=>by simp[gC,eqGuard,binOp,Op.intDiv,hb]⟩
 |o+4=>
  obtain⟨k,a,b,rfl,rfl,g⟩:=iK (f:=fun k a b=>aM (mn b 0) false (fI (Int.tmod a b) fun z=>K (.int k z))) h
  rcases aL g with⟨_,g⟩|⟨hb,g⟩
  ·cases g
  rw[mj,decide_eq_false_iff_not]at hb
  rw[rE]at g
  cases h1;cases h2
  exact⟨_,_,rfl,g,fun w=>by simp[gC,eqGuard,binOp,Op.intDiv,hb]⟩
theorem aaf {P:Program} {E:Env} {ρ:Ren} {o:Nat} {v1 v2:AV} {K:AV→Bool} {x y:Value} (h1:den E ρ v1=some x) (h2:den E ρ v2=some y) (h:Rj o v1 v2 K=true) (t:TypeId) (p q:Operand):
  ∃v z,den E ρ v=some z∧K v=true∧∀w,((do eqGuard (ua o) t p q x y;binOp (ua o) t x y):Sem Value).run P w= .ok z w:=by
 obtain⟨k,a,b,rfl,rfl,g⟩:=iK (f:=fun k a b=>fI (rJ o k a b) fun z=>K (.int k z)) h
 rw[rE]at g
 cases h1;cases h2
 refine⟨_,_,rfl,g,fun w=> ?_⟩
 match o with
 |0=>simp[ua,eqGuard,binOp,Op.intBits,rJ]
 |1=>simp[ua,eqGuard,binOp,Op.intBits,rJ]
 |2=>simp[ua,eqGuard,binOp,Op.intBits,rJ]
 |o+3=>simp[ua,eqGuard,binOp,Op.intBits,rJ]
theorem ael {P:Program} {E:Env} {ρ:Ren} {right:Bool} {v1 v2:AV} {K:AV→Bool} {x y:Value} (h1:den E ρ v1=some x) (h2:den E ρ v2=some y) (h:shX right v1 v2 K=true) (t:TypeId) (p q:Operand):
  ∃v z,den E ρ v=some z∧K v=true∧∀w,((do eqGuard (bif right then .shr else .shl) t p q x y;binOp (bif right then .shr else .shl) t x y):Sem Value).run P w= .ok z w:=by
 obtain⟨k,a,k2,b,rfl,rfl,g⟩:=Vd (f:=fun k a _ b=>aM (lX b 0) false (aM right (fI (Int.fdiv a (2 ^ (min b.toNat (ca k).bits))) fun z=>K (.int k z)) (mJ k (Int.mul a (2 ^ (min b.toNat (ca k).bits))) fun z=>K (.int k z)))) h
 rcases aL g with⟨_,g⟩|⟨hb,g⟩
 ·cases g
 rw[oa,decide_eq_false_iff_not]at hb
 cases h1;cases h2
 rcases aL g with⟨rfl,g⟩|⟨rfl,g⟩
 ·rw[rE]at g
  exact⟨_,_,rfl,g,fun w=>by simp[eqGuard,binOp,Op.shift,hb]⟩
 ·rw[lG]at g
  exact⟨_,_,rfl,g,fun w=>by simp[eqGuard,binOp,Op.shift,hb]<;>rfl⟩
def gB:Nat→BinOp
 |0=>.lss|1=>.leq|2=>.gtr|3=>.geq|4=>.eql|_=>.neq
noncomputable def qM (o:Nat) (a b:Int):Bool:=
 Nat.rec (lX a b) (fun o _=>Nat.rec (Bool.not (lX b a)) (fun o _=>Nat.rec (lX b a) (fun o _=>Nat.rec (Bool.not (lX a b)) (fun o _=>Nat.rec (mn a b) (fun _ _=>Bool.not (mn a b)) o) o) o) o) o
noncomputable def ag4 (o:Nat) (v1 v2:AV) (K:AV→Bool):Bool:=
 fD v1 fun k a=>fD v2 fun k2 b=>ae (Nat.beq k k2) (fB (qM o a b) fun r=>K (.bool r))
theorem ZV {P:Program} {E:Env} {ρ:Ren} {o:Nat} {v1 v2:AV} {K:AV→Bool} {x y:Value} (h1:den E ρ v1=some x) (h2:den E ρ v2=some y) (h:ag4 o v1 v2 K=true) (t:TypeId) (p q:Operand):
  ∃v z,den E ρ v=some z∧K v=true∧∀w,((do eqGuard (gB o) t p q x y;binOp (gB o) t x y):Sem Value).run P w= .ok z w:=by
 obtain⟨k,a,b,rfl,rfl,g⟩:=iK (f:=fun k a b=>fB (qM o a b) fun r=>K (.bool r)) h
 rw[nm]at g
 cases h1;cases h2
 refine⟨_,_,rfl,g,fun w=> ?_⟩
 match o with
 |0=>
  have:qM 0 a b=decide (a<b):=oa a b
  simp[gB,this,eqGuard,binOp,Op.intCmp]
 |1=>
  have:qM 1 a b=decide (a≤b):=by
   show Bool.not (lX b a)=_
   rw[oa,Bool.eq_iff_iff]
   simp
  simp[gB,this,eqGuard,binOp,Op.intCmp]
 |2=>
  have:qM 2 a b=decide (b<a):=oa b a
  simp[gB,this,eqGuard,binOp,Op.intCmp]
 |3=>
  have:qM 3 a b=decide (b≤a):=by
   show Bool.not (lX a b)=_
   rw[oa,Bool.eq_iff_iff]
   simp
  simp[gB,this,eqGuard,binOp,Op.intCmp]
 |4=>
  have:qM 4 a b=decide (a=b):=mj a b
  simp[gB,this,eqGuard,binOp,Op.intCmp,iD]
 |o+5=>
  have:qM (o+5) a b= !decide (a=b):=congrArg Bool.not (mj a b)
  simp[gB,this,eqGuard,binOp,Op.intCmp,bne,iD]
theorem SW {l m:List Nat} (hl:l.all (Nat.blt · 256)=true) (hm:m.all (Nat.blt · 256)=true):l.map UInt8.ofNat=m.map UInt8.ofNat↔l=m:=by
 constructor
 ·intro h
  induction l generalizing m with
  |nil=>cases m<;>simp at h ⊢
  |cons x l ih=>
   cases m with
   |nil=>simp at h
   |cons y m=>
    simp only[al9,List.cons.injEq]at h
    simp only[List.all_cons,aml,amq]at hl hm
    have:x=y:=by
     have:=congrArg UInt8.toNat h.1
     simp only[UInt8.toNat_ofNat']at this
     omega
    rw[this,ih hl.2 hm.2 h.2]
 ·rintro rfl;rfl
noncomputable def TR (v1 v2:AV) (K:AV→Bool):Bool:=
 jh v1 fun l=>jh v2 fun m=>ae (Nat.blt (Nat.add (cj l) (cj m)) 140737488355328) (app l m fun r=>K (.str r))
theorem NZ {P:Program} {E:Env} {ρ:Ren} {v1 v2:AV} {K:AV→Bool} {x y:Value} (h1:den E ρ v1=some x) (h2:den E ρ v2=some y) (h:TR v1 v2 K=true) (t:TypeId) (p q:Operand):
  ∃v z,den E ρ v=some z∧K v=true∧∀w,((do eqGuard .add t p q x y;binOp .add t x y):Sem Value).run P w= .ok z w:=by
 obtain⟨l,e1,g1⟩:=fg h
 obtain⟨m,e2,g2⟩:=fg g1
 obtain⟨hb,g⟩:=ac g2
 rw[ox]at g
 subst e1;subst e2
 cases h1;cases h2
 refine⟨_,_,rfl,g,fun w=> ?_⟩
 rw[bB,bB,amq]at hb
 have hb:l.length+m.length<140737488355328:=hb
 have e:(⟨(l.map UInt8.ofNat).toArray⟩:ByteArray)++⟨(m.map UInt8.ofNat).toArray⟩=⟨((l++m).map UInt8.ofNat).toArray⟩:=by
  apply ByteArray.ext
  simp
 have e1:ByteArray.size ⟨(l.map UInt8.ofNat).toArray⟩=l.length:=by simp[ByteArray.size]
 have e2:ByteArray.size ⟨(m.map UInt8.ofNat).toArray⟩=m.length:=by simp[ByteArray.size]
 simp[eqGuard,binOp,Op.stringOp,e1,e2,e]
 omega
noncomputable def oC (l:List Nat):Bool:=List.rec true (fun x _ ih=>Bool.rec false ih (Nat.blt x 256)) l
theorem sR:∀l,oC l=l.all (Nat.blt · 256)
 |[]=>rfl
 |x::l=>by
  have:oC (x::l)=Bool.rec (motive:=fun _=>Bool) false (oC l) (Nat.blt x 256):=rfl
  rw[this,sR l,List.all_cons]
  cases Nat.blt x 256<;>rfl
noncomputable def aem (ne:Bool) (v1 v2:AV) (K:AV→Bool):Bool:=
 jh v1 fun l=>jh v2 fun m=>ae (oC l) (ae (oC m) (fB (Bool.rec (yL l m) (Bool.not (yL l m)) ne) fun r=>K (.bool r)))
theorem Wg {P:Program} {E:Env} {ρ:Ren} {ne:Bool} {v1 v2:AV} {K:AV→Bool} {x y:Value} (h1:den E ρ v1=some x) (h2:den E ρ v2=some y) (h:aem ne v1 v2 K=true) (t:TypeId) (p q:Operand):
  ∃v z,den E ρ v=some z∧K v=true∧∀w,((do eqGuard (bif ne then .neq else .eql) t p q x y;binOp (bif ne then .neq else .eql) t x y):Sem Value).run P w= .ok z w:=by
 obtain⟨l,e1,g1⟩:=fg h
 obtain⟨m,e2,g2⟩:=fg g1
 obtain⟨hl,g3⟩:=ac g2
 obtain⟨hm,g⟩:=ac g3
 rw[sR]at hl hm
 rw[nm]at g
 subst e1;subst e2
 cases h1;cases h2
 refine⟨_,_,rfl,g,fun w=> ?_⟩
 have hi:=SW hl hm
 cases ne
 ·simp only[cond_false,eqGuard,binOp,Op.stringOp,iq,ot,amf,Sem.run_pure,ame]
  by_cases h:l=m
  ·subst h;simp
  ·simp[h,hi]
 ·simp only[cond_true,eqGuard,binOp,Op.stringOp,iq,ot,amf,Sem.run_pure,ame]
  by_cases h:l=m
  ·subst h;simp
  ·simp[h,hi]
noncomputable def aeT (v:AV) (K:AV→Bool):Bool:=GB v fun b=>fB (Bool.not b) fun r=>K (.bool r)
theorem WD {P:Program} {E:Env} {ρ:Ren} {v:AV} {K:AV→Bool} {x:Value} (h1:den E ρ v=some x) (h:aeT v K=true):∃u z,den E ρ u=some z∧K u=true∧∀w,(Op.unary .not x).run P w= .ok z w:=by
 replace h:=vF h
 obtain⟨b,rfl,g⟩:=h
 try dsimp only at g
 rw[nm]at g
 simp only[den,amm]at h1
 subst h1
 exact⟨_,_,rfl,g,fun w=>by simp[Op.unary]⟩
noncomputable def ae0 (v:AV) (K:AV→Bool):Bool:=fD v fun k z=>mJ k (Int.neg z) fun r=>K (.int k r)
theorem WG {P:Program} {E:Env} {ρ:Ren} {v:AV} {K:AV→Bool} {x:Value} (h1:den E ρ v=some x) (h:ae0 v K=true):∃u z,den E ρ u=some z∧K u=true∧∀w,(Op.unary .neg x).run P w= .ok z w:=by
 replace h:=eZ h
 obtain⟨k,z,rfl,h⟩:=h
 try dsimp only at h
 rw[lG]at h
 simp only[den,amm]at h1
 subst h1
 exact⟨_,_,rfl,h,fun w=>by simp[Op.unary,Op.intArith];rfl⟩
def agX (k:Nat) (z:Int):Int:=(ca k).wrap ((BitVec.ofInt (ca k).bits (if (ca k).signed then -1 else (ca k).max)) ^^^ (BitVec.ofInt (ca k).bits z)).toNat
noncomputable def agY (v:AV) (K:AV→Bool):Bool:=fD v fun k z=>fI (agX k z) fun r=>K (.int k r)
theorem ZP {P:Program} {E:Env} {ρ:Ren} {v:AV} {K:AV→Bool} {x:Value} (h1:den E ρ v=some x) (h:agY v K=true):∃u z,den E ρ u=some z∧K u=true∧∀w,(Op.unary .xor x).run P w= .ok z w:=by
 replace h:=eZ h
 obtain⟨k,z,rfl,h⟩:=h
 try dsimp only at h
 rw[rE]at h
 simp only[den,amm]at h1
 subst h1
 exact⟨_,_,rfl,h,fun w=>by simp[Op.unary,Op.intBits,agX]⟩
noncomputable def ag2 (k:Nat) (v:AV) (K:AV→Bool):Bool:=fD v fun _ z=>mJ k z fun r=>K (.int k r)
theorem ZS {P:Program} {E:Env} {ρ:Ren} {k:Nat} {v:AV} {K:AV→Bool} {x:Value} (h1:den E ρ v=some x) (h:ag2 k v K=true) {src dst:TypeId} (hs:(P.underlying src).isSome=true) (hd:P.underlying dst=some (.int (ca k))):
  ∃u z,den E ρ u=some z∧K u=true∧∀w,(convert src dst x).run P w= .ok z w:=by
 replace h:=eZ h
 obtain⟨k0,z,rfl,h⟩:=h
 try dsimp only at h
 rw[lG]at h
 simp only[den,amm]at h1
 subst h1
 obtain⟨d,hs⟩:=Option.isSome_iff_exists.1 hs
 exact⟨_,_,rfl,h,fun w=>by simp[convert,run_underlying hs,run_underlying hd,Conv.intToInt]⟩
noncomputable def aln (v:AV) (K:Bool→Bool):Bool:=AV.casesOn v false (fun _ _=>false) (fun _=>false) (fun _=>false) (fun _ _=>K false) (fun _ _ _ _=>K false) (fun _=>K false) (K true) (K true) (K true) (K true) (K true) (fun _ _=>K false) (fun _ _=>K false) (fun _=>K false) (fun _=>false) (fun _=>false) (fun _=>false) (fun _=>false)
noncomputable def Ut (v:AV):Nat:=AV.casesOn v 0 (fun _ _=>0) (fun _=>0) (fun _=>0) (fun _ _=>1) (fun _ _ _ _=>2) (fun _=>3) 1 2 3 4 5 (fun _ _=>5) (fun _ _=>4) (fun _=>4) (fun _=>0) (fun _=>0) (fun _=>0) (fun _=>0)
def tp (P:Program) (t:TypeId) (kd:Nat):Option Value:=match P.underlying t,kd with
 |some (.pointer _),1=>some (.pointer none)|some (.slice _),2=>some (.slice none 0 0)|some (.map _ _),3=>some (.map none)|some (.func _ _ _),4=>some .nilFunc|some (.interface _),5=>some .nilIface|_,_=>none
noncomputable def agb (ne:Bool) (kd:Nat) (v:AV) (K:AV→Bool):Bool:=ae (Nat.beq (Ut v) kd) (aln v fun b=>fB (Bool.rec b (Bool.not b) ne) fun r=>K (.bool r))
section
variable {P:Program} {t:TypeId} {w:World} {d:Nat}
theorem oq {e:TypeId} (hu:P.underlying t=some (.pointer e)) (p:Option Addr):(Op.equalIn (d+1) t (.pointer p) (.pointer none)).run P w= .ok p.isNone w:=by
 cases p<;>(simp only[Op.equalIn,amf,run_underlying hu,ame];rfl)
theorem qJ {e:TypeId} (hu:P.underlying t=some (.slice e)) (p:Option Addr) (n c:Nat):(Op.equalIn (d+1) t (.slice p n c) (.slice none 0 0)).run P w= .ok p.isNone w:=by
 cases p<;>(simp only[Op.equalIn,amf,run_underlying hu,ame];rfl)
theorem rF {e f:TypeId} (hu:P.underlying t=some (.map e f)) (p:Option Nat):(Op.equalIn (d+1) t (.map p) (.map none)).run P w= .ok p.isNone w:=by
 cases p<;>(simp only[Op.equalIn,amf,run_underlying hu,ame];rfl)
theorem FZ {a b c} (hu:P.underlying t=some (.func a b c)):(Op.equalIn (d+1) t .nilFunc .nilFunc).run P w= .ok true w:=by
 simp only[Op.equalIn,amf,run_underlying hu,ame];rfl
theorem Mn {a b c} (hu:P.underlying t=some (.func a b c)) (f:Fn) (x y:Array Value):(Op.equalIn (d+1) t (.func f x y) .nilFunc).run P w= .ok false w:=by
 simp only[Op.equalIn,amf,run_underlying hu,ame];rfl
theorem Mm {m} (hu:P.underlying t=some (.interface m)):(Op.equalIn (d+1) t .nilIface .nilIface).run P w= .ok true w:=by
 simp only[Op.equalIn,amf,run_underlying hu,ame];rfl
theorem UC {m} (hu:P.underlying t=some (.interface m)) (u:TypeId) (x:Value):(Op.equalIn (d+1) t (.iface u x) .nilIface).run P w= .ok false w:=by
 simp only[Op.equalIn,amf,run_underlying hu,ame];rfl
end
theorem YM {P:Program} {E:Env} {ρ:Ren} {ne:Bool} {kd:Nat} {v:AV} {K:AV→Bool} {x:Value} {t:TypeId} {y:Value} (hn:tp P t kd=some y) (h1:den E ρ v=some x) (h:agb ne kd v K=true) (p:Operand) (c:Value):
  ∃u z,den E ρ u=some z∧K u=true∧∀w,((do eqGuard (bif ne then .neq else .eql) t p (.const c) x y;binOp (bif ne then .neq else .eql) t x y):Sem Value).run P w= .ok z w:=by
 obtain⟨hk,h2⟩:=ac h
 have hk:=al6 hk
 have key:∀(b:Bool),fB (Bool.rec b (Bool.not b) ne) (fun r=>K (.bool r))=true→(∀w,((do eqGuard (bif ne then .neq else .eql) t p (.const c) x y;binOp (bif ne then .neq else .eql) t x y):Sem Value).run P w= .ok (.bool (bif ne then !b else b)) w)→
   ∃u z,den E ρ u=some z∧K u=true∧∀w,((do eqGuard (bif ne then .neq else .eql) t p (.const c) x y;binOp (bif ne then .neq else .eql) t x y):Sem Value).run P w= .ok z w:=by
  intro b hb hr
  rw[nm]at hb
  refine⟨_,_,rfl,hb,fun w=> ?_⟩
  rw[hr]
  cases ne<;>rfl
 unfold tp at hn
 split at hn<;>first|(cases hn;done)|skip
 all_goals
  have hu:= ‹P.underlying t=some _›
  cases hn
  cases v<;>first|(simp[Ut]at hk;done)|skip
 all_goals
  have ho:∀x y:Value,Op.equal t x y=Op.equalIn (9999+1) t x y:=fun _ _=>rfl
  unfold den at h1
  try split at h1
  all_goals first|(cases h1;done)|skip
  all_goals
   cases h1
   first
    |(refine key true h2 (fun w=> ?_);cases ne<;>simp[eqGuard,binOp,ho,oq hu,qJ hu,rF hu,FZ hu,Mm hu];done)
    |(refine key false h2 (fun w=> ?_);cases ne<;>simp[eqGuard,binOp,ho,oq hu,qJ hu,rF hu,Mn hu,UC hu];done)
    |(refine key true h2 (fun w=> ?_);cases ne<;>simp[eqGuard,binOp,ho,oq hu];done)
    |(refine key false h2 (fun w=> ?_);cases ne<;>simp[eqGuard,binOp,ho,oq hu];done)
    |(refine key true h2 (fun w=> ?_);cases ne<;>simp[eqGuard,binOp,ho,qJ hu];done)
    |(refine key false h2 (fun w=> ?_);cases ne<;>simp[eqGuard,binOp,ho,qJ hu];done)
    |(refine key true h2 (fun w=> ?_);cases ne<;>simp[eqGuard,binOp,ho,rF hu];done)
    |(refine key false h2 (fun w=> ?_);cases ne<;>simp[eqGuard,binOp,ho,rF hu];done)
    |(refine key true h2 (fun w=> ?_);cases ne<;>simp[eqGuard,binOp,ho,FZ hu];done)
    |(refine key false h2 (fun w=> ?_);cases ne<;>simp[eqGuard,binOp,ho,Mn hu];done)
    |(refine key true h2 (fun w=> ?_);cases ne<;>simp[eqGuard,binOp,ho,Mm hu];done)
    |(refine key false h2 (fun w=> ?_);cases ne<;>simp[eqGuard,binOp,ho,UC hu];done)
noncomputable def bF {α:Type _} (o:Option α) (K:α→Bool):Bool:=Option.casesOn o false K
theorem aT {α:Type _} {o:Option α} {K:α→Bool} (h:bF o K=true):∃x,o=some x∧K x=true:=by
 cases o with
 |none=>cases h
 |some x=>exact⟨x,rfl,h⟩
noncomputable def cA (M:T) (i:Nat) (K:Bool→Nat→Nat→List (List AV)→Bool):Bool:=bF (M.get i) fun ob=>AObj.casesOn ob K (fun _ _=>false) (fun _ _ _ _=>false) false (fun _ _ _ _ _=>false) (fun _ _ _ _ _ _ _=>false) (fun _ _ _ _ _ _ _ _ _ _=>false) (fun _ _ _=>false)
theorem bE {M:T} {i:Nat} {K:Bool→Nat→Nat→List (List AV)→Bool} (h:cA M i K=true):∃g Ty sz els,M.get i=some (.blk g Ty sz els)∧K g Ty sz els=true:=by
 obtain⟨ob,h1,h2⟩:=aT h
 cases ob<;>first|exact⟨_,_,_,_,h1,h2⟩|cases h2
noncomputable def gL (M:T) (i:Nat) (K:List (AV×AV×Nat)→Nat→Bool):Bool:=bF (M.get i) fun ob=>AObj.casesOn ob (fun _ _ _ _=>false) K (fun _ _ _ _=>false) false (fun _ _ _ _ _=>false) (fun _ _ _ _ _ _ _=>false) (fun _ _ _ _ _ _ _ _ _ _=>false) (fun _ _ _=>false)
theorem dY {M:T} {i:Nat} {K:List (AV×AV×Nat)→Nat→Bool} (h:gL M i K=true):∃es cl,M.get i=some (.map es cl)∧K es cl=true:=by
 obtain⟨ob,h1,h2⟩:=aT h
 cases ob<;>first|exact⟨_,_,h1,h2⟩|cases h2
noncomputable def BQ (M:T) (i:Nat) (K:Option Nat→Nat→List Nat→Nat→Bool):Bool:=bF (M.get i) fun ob=>AObj.casesOn ob (fun _ _ _ _=>false) (fun _ _=>false) K false (fun _ _ _ _ _=>false) (fun _ _ _ _ _ _ _=>false) (fun _ _ _ _ _ _ _ _ _ _=>false) (fun _ _ _=>false)
theorem yG {M:T} {i:Nat} {K:Option Nat→Nat→List Nat→Nat→Bool} (h:BQ M i K=true):∃m s se st,M.get i=some (.iter m s se st)∧K m s se st=true:=by
 obtain⟨ob,h1,h2⟩:=aT h
 cases ob<;>first|exact⟨_,_,_,_,h1,h2⟩|cases h2
theorem kR {α:Type _} {sz:Nat}:∀{els:List (List α)} {q:Nat} {el:List α},(∀l∈els,l.length=sz)→els[q]?=some el→∃rest,els.flatten.drop (q*sz)=el++rest∧(q+1)*sz≤els.flatten.length
 |[],q,el,_,h=>by simp at h
 |x::els,0,el,ha,h=>by
  simp at h;subst h
  refine⟨els.flatten,by simp,?_⟩
  have:=ha x (by simp)
  simp[this]
 |x::els,q+1,el,ha,h=>by
  obtain⟨rest,h1,h2⟩:=kR (fun l hl=>ha l (by simp[hl])) (show els[q]?=some el by simpa using h)
  have hx:=ha x (by simp)
  refine⟨rest,?_,?_⟩
  ·rw[al8,Nat.add_mul,Nat.one_mul,Nat.add_comm,←hx,←List.drop_drop,List.drop_left,hx]
   exact h1
  ·rw[al8,al2,hx,Nat.add_mul (q+1)]
   omega
theorem dk {α:Type _} {sz:Nat}:∀{els:List (List α)},(∀l∈els,l.length=sz)→els.flatten.length=els.length*sz
 |[],_=>by simp
 |x::els,ha=>by
  rw[al8,al2,ha x (by simp),dk (fun l hl=>ha l (by simp[hl])),al3,Nat.add_mul]
  omega
theorem qF {α:Type _} {sz:Nat} {els:List (List α)} {q r:Nat} {el:List α} {v:α} (ha:∀l∈els,l.length=sz) (hq:els[q]?=some el) (hv:el[r]?=some v):els.flatten[q*sz+r]?=some v:=by
 obtain⟨rest,h1,_⟩:=kR ha hq
 rw[←List.getElem?_drop,h1,List.getElem?_append_left (List.getElem?_eq_some_iff.1 hv).1]
 exact hv
theorem UY {α:Type _} {A el B vs:List α} {n r:Nat} (hA:A.length=n) (hr:r+vs.length≤el.length):
  A++(el.take r++vs++el.drop (r+vs.length))++B=(A++(el++B)).take (n+r)++vs++(A++(el++B)).drop (n+r+vs.length):=by
 subst hA
 have h1:(A++(el++B)).take (A.length+r)=A++el.take r:=by
  rw[List.take_append,List.take_of_length_le (by omega),Nat.add_sub_cancel_left,List.take_append_of_le_length (by omega)]
 have h2:(A++(el++B)).drop (A.length+r+vs.length)=el.drop (r+vs.length)++B:=by
  rw[List.drop_append,List.drop_of_length_le (by omega),amc,show A.length+r+vs.length - A.length=r+vs.length by omega,List.drop_append_of_le_length hr]
 rw[h1,h2]
 simp only[amb]
theorem sc {α:Type _} {arr xs ys:List α} {o L:Nat} (hx:arr.take L=xs) (ho:o+ys.length≤L) (hL:L≤arr.length):(arr.take o++ys++arr.drop (o+ys.length)).take L=xs.take o++ys++xs.drop (o+ys.length):=by
 subst hx
 rw[List.take_take,Nat.min_eq_left (by omega),List.drop_take,List.take_append,List.take_of_length_le (by simp only[al2,ami];omega)]
 congr 1
 congr 1
 simp only[al2,ami]
 omega
theorem Cn {α:Type _} {sz:Nat} {els:List (List α)} {q r:Nat} {el vs:List α} (ha:∀l∈els,l.length=sz) (hq:els[q]?=some el) (hr:r+vs.length≤el.length):
  (els.take q++[el.take r++vs++el.drop (r+vs.length)]++els.drop (q+1)).flatten=els.flatten.take (q*sz+r)++vs++els.flatten.drop (q*sz+r+vs.length):=by
 have hlt:=(List.getElem?_eq_some_iff.1 hq).1
 have he:els.drop q=el::els.drop (q+1):=by
  rw[List.drop_eq_getElem_cons hlt]
  congr 1
  exact(List.getElem?_eq_some_iff.1 hq).2
 have hl:(els.take q).flatten.length=q*sz:=by
  rw[dk (sz:=sz) (fun l hl=>ha l (List.mem_of_mem_take hl)),ami,Nat.min_eq_left (Nat.le_of_lt hlt)]
 have hflat:els.flatten=(els.take q).flatten++(el++(els.drop (q+1)).flatten):=by
  rw[←al8,←he,←List.flatten_append,List.take_append_drop]
 rw[hflat,←UY hl hr]
 simp
section
variable {P:Program} {E:Env} {ρ:Ren} {G:GS} {F:List aH} {M:T} {nx:Nat} {w:World}
theorem Sim.cellsAt (h:Sim E ρ G F M nx w) {i:Nat} {g:Bool} {Ty sz:Nat} {els:List (List AV)} (hi:M.get i=some (.blk g Ty sz els)):
  ∃e arr xs,ρ i=some e∧w.heap[e.b]?=some (.cells arr Ty (0,0))∧ay E ρ els.flatten=some xs∧(∀l∈els,l.length=sz)∧0<sz∧xs.length≤arr.size∧arr.toList.take xs.length=xs∧
   (g=false→arr.toList=xs)∧(g=true→arr.size=e.cap*sz∧els.length≤e.cap∧e.cap≤maxLen):=by
 obtain⟨e,ob,h1,h2,h3⟩:=h.obj hi
 obtain⟨ha,hs,arr,xs,rfl,hd,hg⟩:=h3
 have hx:=bA hd
 rw[dk ha]at hx
 cases g with
 |false=>
  simp only[cond_false]at hg
  refine⟨e,arr,xs,h1,h2,hd,ha,hs,by rw[←hg];simp,by rw[←hg];exact List.take_of_length_le (amj _),fun _=>hg,fun q=>by cases q⟩
 |true=>
  simp only[cond_true]at hg
  obtain⟨g1,g2,g3,g4⟩:=hg
  refine⟨e,arr,xs,h1,h2,hd,ha,hs,?_,by rw[hx];exact g2,(fun q=>by cases q),fun _=>⟨g1,g3,g4⟩⟩
  rw[hx,g1]
  exact Nat.mul_le_mul_right _ g3
theorem Sim.cell (h:Sim E ρ G F M nx w) {i:Nat} {g:Bool} {Ty sz q r:Nat} {els:List (List AV)} {el:List AV} {v:AV} (hi:M.get i=some (.blk g Ty sz els)) (hq:els[q]?=some el) (hv:el[r]?=some v):
  ∃e x,ρ i=some e∧den E ρ v=some x∧w.cell? ⟨e.b,q*sz+r,none⟩=some x:=by
 obtain⟨e,arr,xs,h1,h2,h3,h4,_,h6,h7,_⟩:=h.cellsAt hi
 obtain⟨x,hx,hxs⟩:=eS h3 (qF h4 hq hv)
 refine⟨e,x,h1,hx,?_⟩
 have hlt:=(List.getElem?_eq_some_iff.1 hxs).1
 rw[←h7,amk hlt]at hxs
 simp only[World.cell?,h2]
 simpa using hxs
theorem Sim.cells (h:Sim E ρ G F M nx w) {i:Nat} {g:Bool} {Ty sz q r n:Nat} {els:List (List AV)} {el:List AV} (hi:M.get i=some (.blk g Ty sz els)) (hq:els[q]?=some el) (hn:n≤(el.drop r).length):
  ∃e xs,ρ i=some e∧ay E ρ ((el.drop r).take n)=some xs∧xs.length=n∧∀j v,xs[j]?=some v→w.cell? ⟨e.b,q*sz+r+j,none⟩=some v:=by
 obtain⟨e,arr,ys,h1,h2,h3,h4,_,h6,h7,_⟩:=h.cellsAt hi
 obtain⟨rest,h8,_⟩:=kR h4 hq
 have hd:=iB (q*sz) h3
 rw[h8]at hd
 obtain⟨as,bs,ha,hb,hab⟩:=dy hd
 have hd2:=kg n (iB r ha)
 refine⟨e,_,h1,hd2,?_,fun j v hv=> ?_⟩
 ·have:=bA hd2
  rw[this,ami];omega
 ·obtain⟨u,hu,hu2⟩:∃u,((el.drop r).take n)[j]?=some u∧den E ρ u=some v:=by
   have hl:=bA hd2
   have hj:=(List.getElem?_eq_some_iff.1 hv).1
   obtain⟨u,hu⟩:∃u,((el.drop r).take n)[j]?=some u:=⟨_,List.getElem?_eq_getElem (by omega)⟩
   obtain⟨x,hx,hx2⟩:=eS hd2 hu
   rw[hx2]at hv;cases hv
   exact⟨u,hu,hx⟩
  have hjn:j<n:=by
   have:=(List.getElem?_eq_some_iff.1 hu).1
   rw[ami]at this;omega
  rw[amk hjn,List.getElem?_drop]at hu
  obtain⟨e',x,e1,e2,e3⟩:=h.cell hi hq hu
  rw[h1]at e1;cases e1
  rw[hu2]at e2;cases e2
  rw[Nat.add_assoc]
  exact e3
noncomputable def af0 (v:AV) (M:T) (K:AV→Bool):Bool:=fO v fun i o=>cA M i fun _ _ sz els=>bF (bS els (Nat.div o sz)) fun el=>bF (bS el (Nat.mod o sz)) K
theorem Yz (h:Sim E ρ G F M nx w) {v:AV} {K:AV→Bool} {x:Value} (hv:den E ρ v=some x) (hk:af0 v M K=true) {t:TypeId} (hag:fG P t=some false):∃u z,den E ρ u=some z∧K u=true∧(Instr.loadAt t x).run P w= .ok z w:=by
 obtain⟨i,o,rfl,k1⟩:=eK hk
 obtain⟨g,Ty,sz,els,hi,k2⟩:=bE k1
 obtain⟨el,hq,k3⟩:=aT k2
 obtain⟨u,hr,k4⟩:=aT k3
 rw[cx]at hq hr
 obtain⟨e,z,h1,h2,h3⟩:=h.cell hi hq hr
 have ho:Nat.div o sz*sz+Nat.mod o sz=o:=by
  have:=Nat.div_add_mod o sz
  rw[Nat.mul_comm];exact this
 rw[ho]at h3
 simp only[den,h1]at hv
 cases hv
 exact⟨u,z,h2,k4,by simp[Instr.loadAt,Instr.sureAddr,loadVar,run_isAgg hag,load,Sem.run,h3]⟩
noncomputable def afY (n:Nat) (v:AV) (M:T) (K:AV→Bool):Bool:=fO v fun i o=>cA M i fun _ _ sz els=>bF (bS els (Nat.div o sz)) fun el=>tak (ou el (Nat.mod o sz)) n fun cs=>K (.agg cs)
theorem Yx (h:Sim E ρ G F M nx w) {n:Nat} {v:AV} {K:AV→Bool} {x:Value} (hv:den E ρ v=some x) (hk:afY n v M K=true) {t:TypeId} (hag:fG P t=some true) (hs:bH P t=some n):∃u z,den E ρ u=some z∧K u=true∧(Instr.loadAt t x).run P w= .ok z w:=by
 obtain⟨i,o,rfl,k1⟩:=eK hk
 obtain⟨g,Ty,sz,els,hi,k2⟩:=bE k1
 obtain⟨el,hq,k3⟩:=aT k2
 rw[cx]at hq
 obtain⟨k4,hle⟩:=iL k3
 rw[mp]at k4 hle
 obtain⟨e,xs,h1,h2,h3,h4⟩:=h.cells hi hq hle
 have ho:Nat.div o sz*sz+Nat.mod o sz=o:=by
  have:=Nat.div_add_mod o sz
  rw[Nat.mul_comm];exact this
 rw[ho]at h4
 simp only[den,h1]at hv
 cases hv
 subst h3
 have:=Go.Eng.run_loadCells (P:=P) (w:=w) e.b o xs 0 #[] (fun j v hv=>by simpa using h4 j v hv)
 exact⟨_,.agg xs.toArray,by simp only[den,h2],k4,by simp[Instr.loadAt,Instr.sureAddr,loadVar,Go.Eng.run_isAgg hag,Go.Eng.run_sizeOf hs,loadCells,this]⟩
theorem kI {b:Nat} {Ty:TypeId} (o:Nat):∀(vs:List Value) (i:Nat) (w:World) (c:Array Value),w.heap[b]?=some (.cells c Ty (0,0))→o+i+vs.length≤c.size→vs.all Value.oneCell'=true→
  ∃w',(storeCells ⟨b,o,none⟩ vs i).run P w= .ok () w'∧w'.heap[b]?=some (.cells (ed c (o+i) vs) Ty (0,0))∧w'.os=w.os∧w'.tape=w.tape∧w'.output=w.output∧w'.heap.size=w.heap.size∧∀k,k≠b→w'.heap[k]?=w.heap[k]?
 |[],i,w,c,h,_,_=>⟨w,rfl,h,rfl,rfl,rfl,rfl,fun _ _=>rfl⟩
 |v::vs,i,w,c,hown,hb,h1=>by
  simp only[al3]at hb
  simp only[List.all_cons,aml]at h1
  have hcell:w.cell? ⟨b,o+i,none⟩=some (c[o+i]'(by omega)):=by
   simp only[World.cell?,hown]
   exact Array.getElem?_eq_getElem (by omega)
  have hfr:w.frozen? ⟨b,o+i,none⟩=false:=by simp[World.frozen?,hown]
  have hrun:∀k:Sem Unit,(Sem.store .plain ⟨b,o+i,none⟩ v k).run P w=k.run P (w.setCell ⟨b,o+i,none⟩ v):=by
   intro k
   have:=h1.1
   cases v<;>simp[Value.oneCell']at this<;>simp[Sem.run,hcell,hfr]
  have hself:(w.setCell ⟨b,o+i,none⟩ v).heap[b]?=some (.cells (c.setIfInBounds (o+i) v) Ty (0,0)):=by
   simp[World.setCell,Array.getElem?_modify,hown]
  obtain⟨w',hr,h2,h3,h4,h5,h6,h7⟩:=kI o vs (i+1) (w.setCell ⟨b,o+i,none⟩ v) (c.setIfInBounds (o+i) v) hself (by simp;omega) h1.2
  refine⟨w',?_,h2,h3,h4,h5,by rw[h6];simp[World.setCell],fun k hk=> ?_⟩
  ·simp only[storeCells,amf,bQ,store,hrun]
   simp only[Sem.run,ame,hr]
  ·rw[h7 k hk]
   exact Below.heap_setCell _ _ _ _ hk
noncomputable def aP:Nat:=24
noncomputable def cU (n:Nat) (v x:AV) (M:T) (K:T→Bool):Bool:=
 fO v fun i o=>cA M i fun g Ty sz els=>bF (bS els (Nat.div o sz)) fun el=>ae (Nat.beq (cj (bD x)) n) (ae (qV (bD x))
  (upd el (Nat.mod o sz) (bD x) fun el'=>upd els (Nat.div o sz) [el'] fun els'=>T.set aP M i (some (.blk g Ty sz els')) K))
theorem EN (hE:cK E) (h:Sim E ρ G F M nx w) {n:Nat} {v x:AV} {K:T→Bool} {p y:Value} (hv:den E ρ v=some p) (hx:den E ρ x=some y) (hk:cU n v x M K=true) {t:TypeId} (hs:bH P t=some n):
  ∃M' w',Sim E ρ G F M' nx w'∧K M'=true∧(Instr.storeAt t p y).run P w= .ok () w'∧∀a,p= .pointer (some a)→(storeCells a y.cells.toList).run P w= .ok () w':=by
 obtain⟨i,o,rfl,k1⟩:=eK hk
 obtain⟨g,Ty,sz,els,hi,k2⟩:=bE k1
 obtain⟨el,hq,k3⟩:=aT k2
 rw[cx]at hq
 obtain⟨hn,k4⟩:=ac k3
 obtain⟨h1,k5⟩:=ac k4
 obtain⟨k6,hle⟩:=bG k5
 obtain⟨k7,hle2⟩:=bG k6
 obtain⟨M',hK,hg1,hg2⟩:=T.set_ok _ _ _ _ _ k7
 obtain⟨e,arr,xs,e1,e2,e3,e4,e5,e6,e7,e8,e9⟩:=h.cellsAt hi
 have hcx:=jg hE hx
 have hcl:=bA hcx
 have hn':(bD x).length=n:=by rw[←bB];exact al6 hn
 have ho:Nat.div o sz*sz+Nat.mod o sz=o:=by
  have:=Nat.div_add_mod o sz
  rw[Nat.mul_comm];exact this
 obtain⟨rest,r1,r2⟩:=kR e4 hq
 have hell:=e4 el (al7 hq)
 have hxl:=bA e3
 have hsz:o+(bD x).length≤xs.length:=by
  rw[hxl]
  have:(Nat.div o sz+1)*sz=Nat.div o sz*sz+sz:=by rw[Nat.add_mul,Nat.one_mul]
  omega
 obtain⟨w',hr,w1,w2,w3,w4,w5,w6⟩:=kI (P:=P) o y.cells.toList 0 w arr e2 (by rw[hcl];omega) (kV hE h1 hcx)
 rw[Nat.add_zero]at w1
 simp only[den,e1]at hv
 cases hv
 refine⟨M',w',h.turn hi e1 w2 w3 w4 (fun b _ hb=>w6 b hb) w1 ?_ hg1 hg2,hK,?_,fun a ha=>by cases ha;exact hr⟩
 ·have hsp:=jN y.cells.toList arr o (by rw[hcl];omega)
  have hlen':∀l∈els.take (Nat.div o sz)++[el.take (Nat.mod o sz)++bD x++el.drop (Nat.mod o sz+(bD x).length)]++els.drop (Nat.div o sz+1),l.length=sz:=by
   intro l hl
   simp only[amh,List.mem_singleton]at hl
   rcases hl with(hl|rfl)|hl
   ·exact e4 l (List.mem_of_mem_take hl)
   ·simp only[al2,ami,amr];omega
   ·exact e4 l (List.mem_of_mem_drop hl)
  have hfl:=Cn e4 hq hle
  rw[ho]at hfl
  have hden:ay E ρ (els.flatten.take o++bD x++els.flatten.drop (o+(bD x).length))=some (xs.take o++y.cells.toList++xs.drop (o+(bD x).length)):=
   dl (dl (kg _ e3) hcx) (iB _ e3)
  refine⟨hlen',e5,ed arr o y.cells.toList,xs.take o++y.cells.toList++xs.drop (o+(bD x).length),rfl,?_,?_⟩
  ·rw[←hden]
   exact congrArg (ay E ρ) hfl
  ·have hcount:(els.take (Nat.div o sz)++[el.take (Nat.mod o sz)++bD x++el.drop (Nat.mod o sz+(bD x).length)]++els.drop (Nat.div o sz+1)).length=els.length:=by
    simp only[al2,ami,amr,List.length_singleton,al3,List.length_nil]at hle2 ⊢
    omega
   cases g with
   |false=>
    simp only[cond_false]
    rw[hsp,e8 rfl,hcl]
   |true=>
    obtain⟨q1,q2,q3⟩:=e9 rfl
    simp only[cond_true]
    refine⟨by rw[gV];exact q1,?_,(show _≤_ from by rw[←hcount]at q2;exact q2),q3⟩
    refine Eq.trans (congrArg (fun n=>(ed arr o y.cells.toList).toList.take (n*sz)) hcount) ?_
    show(ed arr o y.cells.toList).toList.take (els.length*sz)=_
    rw[←dk e4,←hxl,hsp,hcl]
    rw[←hcl]
    exact sc e7 (by rw[hcl];exact hsz) (by rw[Array.length_toList];exact e6)
 ·have hsz2:y.cells.size=n:=by rw[←Array.length_toList,hcl,hn']
  simp[Instr.storeAt,Instr.sureAddr,storeVar,Go.Eng.run_sizeOf hs,hsz2,hr]
theorem aec (hE:cK E) (h:Sim E ρ G F M nx w) {n:Nat} {v x:AV} {K:T→Bool} {p y:Value} (hv:den E ρ v=some p) (hx:den E ρ x=some y) (hk:cU n v x M K=true) {t:TypeId} (hs:bH P t=some n):
  ∃M' w',Sim E ρ G F M' nx w'∧K M'=true∧(Instr.storeAt t p y).run P w= .ok () w':=
 let ⟨M',w',h1,h2,h3,_⟩:=EN hE h hv hx hk hs
 ⟨M',w',h1,h2,h3⟩
end
section
variable {P:Program} {E:Env} {ρ:Ren} {G:GS} {F:List aH} {M:T} {nx:Nat} {w:World}
noncomputable def Hs (g:Bool) (Ty sz:Nat) (els:List (List AV)) (M:T) (nx:Nat) (K:T→Nat→Bool):Bool:=T.set aP M nx (some (.blk g Ty sz els)) fun M'=>fN (Nat.succ nx) fun n=>K M' n
theorem wg (h:Sim E ρ G F M nx w) {Ty sz:Nat} {els:List (List AV)} {K:T→Nat→Bool} {xs:List Value} (hk:Hs false Ty sz els M nx K=true) (hlen:∀l∈els,l.length=sz) (hsz:0<sz) (hd:ay E ρ els.flatten=some xs):
  ∃M' ρ',ρ.Le ρ'∧ρ' nx=some ⟨w.heap.size,0⟩∧Sim E ρ' G F M' (nx+1) (w.alloc (.cells xs.toArray Ty))∧K M' (nx+1)=true:=by
 obtain⟨M',k1,k2,k3⟩:=T.set_ok _ _ _ _ _ hk
 rw[bt]at k1
 have hn:=h.fresh nx (amj _)
 exact⟨M',ρ.set nx ⟨w.heap.size,0⟩,Ren.le_set _ hn,Ren.set_self _ _ _,h.alloc (o:=.blk false Ty sz els) hn (Nat.le_succ _) (Nat.lt_succ_self _) ⟨hlen,hsz,xs.toArray,xs,rfl,hd,by simp⟩ k2 k3,k1⟩
noncomputable def fM (n:Nat) (K:Nat→Bool):Bool:=Nat.rec (motive:=fun _=>(Nat→Bool)→Bool) (fun K=>K 0) (fun _ ih K=>ih fun m=>K (Nat.succ m)) n K
theorem IZ:∀(n:Nat) (K:Nat→Bool),fM n K=K n
 |0,_=>rfl
 |n+1,K=>IZ n fun m=>K (Nat.succ m)
noncomputable def AN (Ty:Nat) (cs:List AV) (M:T) (nx:Nat) (K:AV→T→Nat→Bool):Bool:=fM (cj cs) fun z=>Hs false Ty z [cs] M nx fun M' n=>K (.ptr nx 0) M' n
theorem Fk (h:Sim E ρ G F M nx w) {Ty:Nat} {cs:List AV} {K:AV→T→Nat→Bool} {xs:List Value} (hk:AN Ty cs M nx K=true) (hd:ay E ρ cs=some xs) (h0:cs≠[]):
  ∃M' ρ',ρ.Le ρ'∧Sim E ρ' G F M' (nx+1) (w.alloc (.cells xs.toArray Ty))∧K (.ptr nx 0) M' (nx+1)=true∧den E ρ' (.ptr nx 0)=some (.pointer (some ⟨w.heap.size,0,none⟩)):=by
 unfold AN at hk
 rw[IZ]at hk
 obtain⟨M',ρ',h1,h2,h3,h4⟩:=wg h (xs:=xs) hk (fun l hl=>by simp only[List.mem_singleton]at hl;subst hl;exact(bB _).symm) (by rw[bB];exact List.length_pos_iff.2 h0) (by simpa using hd)
 exact⟨M',ρ',h1,h3,h4,by simp[den,h2]⟩
theorem Ru (h:Sim E ρ G F M nx w) {Ty:Nat} {cs:List AV} {K:AV→T→Nat→Bool} {zs:Array Value} (hz:jA P Ty=some zs) (hd:ay E ρ cs=some zs.toList) (h0:cs≠[]) (hk:AN Ty cs M nx K=true):
  ∃v M' nx' ρ' w' z,ρ.Le ρ'∧Sim E ρ' G F M' nx' w'∧K v M' nx'=true∧den E ρ' v=some z∧(Instr.alloc Ty true (.tuple #[])).run P w= .ok z w':=by
 obtain⟨M',ρ',h1,h2,h3,h4⟩:=Fk h hk hd h0
 refine⟨_,M',_,ρ',_,_,h1,h2,h3,h4,?_⟩
 obtain⟨z,hz1,hz2⟩:=oE hz w
 subst hz2
 simp[Instr.alloc,hz1,newVar,newRow,newObj,Sem.run]
noncomputable def ahb (Ty:Nat) (v:AV) (M:T) (nx:Nat) (K:AV→T→Nat→Bool):Bool:=ae (Nat.blt 0 (cj (bD v))) (AN Ty (bD v) M nx K)
theorem aad (hE:cK E) (h:Sim E ρ G F M nx w) {Ty:Nat} {v:AV} {K:AV→T→Nat→Bool} {x:Value} (hx:den E ρ v=some x) (hk:ahb Ty v M nx K=true):
  ∃v M' nx' ρ' w' z,ρ.Le ρ'∧Sim E ρ' G F M' nx' w'∧K v M' nx'=true∧den E ρ' v=some z∧(Instr.box Ty x).run P w= .ok z w':=by
 obtain⟨k0,k1⟩:=ac hk
 rw[amq,bB]at k0
 obtain⟨M',ρ',h1,h2,h3,h4⟩:=Fk h k1 (jg hE hx) (fun e=>by rw[e]at k0;simp at k0)
 exact⟨_,M',_,ρ',_,_,h1,h2,h3,h4,by simp[Instr.box,newVar,newRow,newObj,Sem.run]⟩
theorem Cu:∀(l:List Value) (cs:Array Value) (off k:Nat),off+k+l.length≤cs.size→((l.zipIdx k).foldl (fun cs p=>cs.setIfInBounds (off+p.2) p.1) cs)=ed cs (off+k) l
 |[],cs,off,k,_=>rfl
 |v::l,cs,off,k,h=>by
  simp only[al3]at h
  simp only[List.zipIdx_cons,List.foldl_cons,ed]
  rw[Cu l _ off (k+1) (by simp;omega),Nat.add_assoc]
noncomputable def zP (ps:List (Nat×AV)):List AV→(List AV→Bool)→Bool:=List.rec (fun cs K=>K cs) (fun p _ ih cs K=>upd cs p.1 (bD p.2) fun cs'=>ih cs' K) ps
theorem tS (hE:cK E) {place:Nat→Option (Nat×Nat)}:∀{ps:List (Nat×AV)} {is:List Nat} {vs:List Value} {cs:List AV} {K:List AV→Bool} {zs:Array Value},zP ps cs K=true→ay E ρ cs=some zs.toList→
  ay E ρ (ps.map (·.2))=some vs→ps.length=is.length→(∀(k:Nat) (p:Nat×AV) (i:Nat) (y:Value),ps[k]?=some p→is[k]?=some i→vs[k]?=some y→place i=some (p.1,y.cells.size))→
  ∃cs' zs',K cs'=true∧ay E ρ cs'=some zs'.toList∧Instr.fill place zs (is.zip vs)=some zs'∧zs'.size=zs.size
 |[],is,vs,cs,K,zs,h,hd,hv,hl,_=>by
  have:is=[]:=by cases is<;>simp at hl ⊢
  subst this
  exact⟨cs,zs,h,hd,by simp[Instr.fill],rfl⟩
 |(off,v)::ps,is,vs,cs,K,zs,h,hd,hv,hl,hp=>by
  obtain⟨i,is,rfl⟩:∃i is',is=i::is':=by
   cases is with
   |nil=>simp at hl
   |cons i is=>exact⟨i,is,rfl⟩
  have h':upd cs off (bD v) (fun cs'=>zP ps cs' K)=true:=h
  obtain⟨h1,h2⟩:=bG h'
  obtain⟨y,ys,hy,hys,rfl⟩:=bf (v:=v) (r:=ps.map (·.2)) hv
  have hc:=jg hE hy
  have hcl:=bA hc
  have hdl:=bA hd
  have hpl:=hp 0 (off,v) i y rfl rfl rfl
  have hb:off+y.cells.size≤zs.size:=by
   rw[←Array.length_toList (xs:=y.cells),hcl,←Array.length_toList (xs:=zs),hdl];exact h2
  have hsp:=jN y.cells.toList zs off (by rw[Array.length_toList];exact hb)
  have hd2:ay E ρ (cs.take off++bD v++cs.drop (off+(bD v).length))=some (ed zs off y.cells.toList).toList:=by
   rw[hsp]
   refine dl (dl (kg _ hd) hc) ?_
   rw[hcl]
   exact iB _ hd
  obtain⟨cs',zs',g1,g2,g3,g4⟩:=tS hE (place:=place) (ps:=ps) (is:=is) h1 hd2 hys (by simpa using hl) fun k p i y e1 e2 e3=>hp (k+1) p i y (by simpa using e1) (by simpa using e2) (by simpa using e3)
  refine⟨cs',zs',g1,g2,?_,by rw[g4,gV]⟩
  simp only[List.zip_cons_cons,Instr.fill,hpl]
  rw[if_neg (by simp;omega)]
  rw[←Array.foldl_toList,Array.toList_zipIdx]
  have:=Cu y.cells.toList zs off 0 (by rw[Array.length_toList];omega)
  rw[Nat.add_zero]at this
  simp only[this]
  exact g3
def kA (P:Program) (t:TypeId) (i:Nat):Option (Nat×Nat):=match P.underlying t with
 |some (.struct fs)=>match fs[i]? with
  |some f=>(bH P f.type).map fun n=>(f.offset,n)
  |none=>none
 |some (.array _ e)=>(bH P e).map fun n=>(i*n,n)
 |some (.slice e)=>(bH P e).map fun n=>(i*n,n)
 |_=>none
def vo (P:Program) (t:TypeId):Bool:=match P.underlying t with
 |some (.struct fs)=>fs.toList.all fun f=>(bH P f.type).isSome
 |some (.array _ e)=>(bH P e).isSome
 |_=>false
theorem Hq {fs:List Field} (h:∀f∈fs,(bH P f.type).isSome=true) (w:World):∃l:List (Nat×Nat),(fs.mapM (fun f=>(do pure (f.offset,←sizeOf f.type):Sem (Nat×Nat)))).run P w= .ok l w∧l.length=fs.length∧∀(i:Nat) (f:Field) (n:Nat),fs[i]?=some f→bH P f.type=some n→l[i]?=some (f.offset,n):=by
 induction fs with
 |nil=>exact⟨[],by simp[List.mapM_nil],rfl,fun i f n h=>by simp at h⟩
 |cons f fs ih=>
  obtain⟨l,h1,h2,h3⟩:=ih fun g hg=>h g (by simp[hg])
  obtain⟨n,hn⟩:=Option.isSome_iff_exists.1 (h f (by simp))
  refine⟨(f.offset,n)::l,?_,by simp[h2],fun i g m hi hm=> ?_⟩
  ·simp only[List.mapM_cons,amf,Go.Eng.run_sizeOf hn,ame,h1,Sem.run_pure]
  ·cases i with
   |zero=>
    simp at hi;subst hi
    rw[hn]at hm;cases hm
    rfl
   |succ i=>simpa using h3 i g m (by simpa using hi) hm
theorem JT {t:TypeId} {zs zs':Array Value} (hz:jA P t=some zs) (hf:vo P t=true) {is:List Nat} {vs:List Value} (hl:is.length=vs.length) (hfill:Instr.fill (kA P t) zs (is.zip vs)=some zs') (hin:∀i∈is,kA P t i≠none) (w:World):
  (Instr.build t (is.zip vs).toArray).run P w= .ok (.agg zs') w:=by
 obtain⟨z,hz1,rfl⟩:=oE hz w
 unfold vo at hf
 have hcong:∀(place place':Nat→Option (Nat×Nat)) (l:List (Nat×Value)) (zs:Array Value),(∀p∈l,place p.1=place' p.1)→Instr.fill place zs l=Instr.fill place' zs l:=by
  intro place place' l
  induction l with
  |nil=>intro zs _;rfl
  |cons p l ih=>
   intro zs h
   obtain⟨i,v⟩:=p
   simp only[Instr.fill,h (i,v) (by simp)]
   split
   ·rfl
   ·split
    ·rfl
    ·exact ih _ fun q hq=>h q (by simp[hq])
 have hmem:∀p∈is.zip vs,p.1∈is:=fun p hp=>(List.of_mem_zip hp).1
 split at hf
 ·rename_i fs hu
  obtain⟨l,h1,h2,h3⟩:=Hq (P:=P) (fs:=fs.toList) (fun f hf'=>by have:=List.all_eq_true.1 hf f hf';simpa using this) w
  have hm:(fs.mapM (fun f=>(do pure (f.offset,←sizeOf f.type):Sem (Nat×Nat)))).run P w= .ok l.toArray w:=by
   rw[Array.mapM_eq_mapM_toList]
   show Sem.run P (List.mapM _ fs.toList >>= fun a=>pure a.toArray) w=_
   rw[amf,h1]
   rfl
  simp only[Instr.build,amf,hz1,ame,run_underlying hu,hm]
  rw[hcong _ (kA P t) _ _ (fun p hp=> ?_),hfill]
  ·rfl
  ·have hne:=hin p.1 (hmem p hp)
   unfold kA at hne ⊢
   rw[hu]at hne ⊢
   simp only at hne ⊢
   rcases hf':fs[p.1]? with _|f
   ·simp[hf']at hne
   ·simp only[hf']at hne ⊢
    rcases hs:bH P f.type with _|n
    ·simp[hs]at hne
    ·simpa using h3 p.1 f n (by simpa using hf') hs
 ·rename_i n e hu
  obtain⟨m,hm⟩:=Option.isSome_iff_exists.1 hf
  have hp:∀i,kA P t i=some (i*m,m):=fun i=>by simp[kA,hu,hm]
  simp only[Instr.build,amf,hz1,ame,run_underlying hu,Go.Eng.run_sizeOf hm]
  rw[hcong _ (kA P t) _ _ (fun p _=>(hp p.1).symm),hfill]
  rfl
 ·cases hf
noncomputable def ahd (z:List AV) (ps:List (Nat×AV)) (K:AV→Bool):Bool:=zP ps z fun cs=>K (.agg cs)
def ru (P:Program) (t:TypeId) (is:List Nat) (ps:List (Nat×Nat)):Bool:=decide (is.map (kA P t)=ps.map some)
theorem aae (hE:cK E) {t:TypeId} {z:List AV} {zs:Array Value} (hz:jA P t=some zs) (hzd:ay E ρ z=some zs.toList) (hf:vo P t=true) {is:List Nat} {ps:List (Nat×Nat)} (hp:ru P t is ps=true) {vs:List AV} {ys:List Value} {K:AV→Bool}
  (hv:ay E ρ vs=some ys) (hlen:vs.length=is.length) (hsz:∀(k:Nat) (p:Nat×Nat) (y:Value),ps[k]?=some p→ys[k]?=some y→y.cells.size=p.2) (hk:ahd z ((ps.map (·.1)).zip vs) K=true):
  ∃u x,den E ρ u=some x∧K u=true∧∀w,(Instr.build t (is.zip ys).toArray).run P w= .ok x w:=by
 have hp:is.map (kA P t)=ps.map some:=of_decide_eq_true hp
 have hpl:ps.length=is.length:=by have:=congrArg List.length hp;simpa using this.symm
 have hyl:=bA hv
 have h2:((ps.map (·.1)).zip vs).map (·.2)=vs:=by
  rw[List.map_snd_zip];simp;omega
 obtain⟨cs',zs',g1,g2,g3,g4⟩:=tS hE (place:=kA P t) (is:=is) (vs:=ys) hk hzd (by rw[h2];exact hv) (by simp;omega) fun k p i y e1 e2 e3=>by
  have h3:(is.map (kA P t))[k]?=(ps.map some)[k]?:=by rw[hp]
  rw[amn,amn,e2]at h3
  obtain⟨q,hq,hq2⟩:∃q,ps[k]?=some q∧p.1=q.1:=by
   rw[List.getElem?_zip_eq_some]at e1
   rw[amn]at e1
   obtain⟨e4,_⟩:=e1
   rcases hq:ps[k]? with _|q
   ·rw[hq]at e4;simp at e4
   ·rw[hq]at e4;simp at e4;exact⟨q,rfl,e4.symm⟩
  rw[hq]at h3
  simp at h3
  rw[h3,hq2,hsz k q y hq e3]
 refine⟨_,.agg zs',by simp[den,g2],g1,fun w=>JT hz hf (by omega) g3 (fun i hi=> ?_) w⟩
 obtain⟨k,hk'⟩:=List.mem_iff_getElem?.1 hi
 have h3:(is.map (kA P t))[k]?=(ps.map some)[k]?:=by rw[hp]
 rw[amn,amn,hk']at h3
 rcases hq:ps[k]? with _|q
 ·rw[hq]at h3;simp at h3
 ·rw[hq]at h3;simp at h3;rw[h3];simp
end
noncomputable def CA (sz:Nat):Nat→List AV→(List (List AV)→Bool)→Bool:=Nat.rec (fun l K=>List.casesOn l (K []) (fun _ _=>false)) (fun _ ih l K=>tak l sz fun a=>ih (ou l sz) fun r=>K (a::r))
theorem yN {sz:Nat}:∀{n:Nat} {l:List AV} {K:List (List AV)→Bool},CA sz n l K=true→∃els,K els=true∧els.flatten=l∧(∀e∈els,e.length=sz)∧els.length=n
 |0,l,K,h=>by
  cases l with
  |nil=>exact⟨[],h,rfl,by simp,rfl⟩
  |cons a l=>cases h
 |n+1,l,K,h=>by
  have h':tak l sz (fun a=>CA sz n (ou l sz) fun r=>K (a::r))=true:=h
  obtain⟨h1,h2⟩:=iL h'
  rw[mp]at h1
  obtain⟨els,h3,h4,h5,h6⟩:=yN h1
  refine⟨_,h3,?_,?_,by simp[h6]⟩
  ·rw[al8,h4,List.take_append_drop]
  ·intro e he
   rcases List.mem_cons.1 he with rfl|he
   ·rw[ami];omega
   ·exact h5 e he
noncomputable def Hr (z:List AV):Nat→(List (List AV)→Bool)→Bool:=Nat.rec (fun K=>K []) (fun _ ih K=>ih fun r=>K (z::r))
theorem EX (z:List AV):∀(n:Nat) (K:List (List AV)→Bool),Hr z n K=K (List.replicate n z)
 |0,_=>rfl
 |n+1,K=>by
  have:Hr z (n+1) K=Hr z n (fun r=>K (z::r)):=rfl
  rw[this,EX z n];rfl
theorem Pm {z:Array Value} {sz:Nat} (hz:z.size=sz) (h0:0<sz) (c:Nat):madeCells z (c*sz)=(List.replicate c z.toList).flatten.toArray:=by
 apply Array.ext'
 apply List.ext_getElem?
 intro i
 have hfl:(List.replicate c z.toList).flatten.length=c*sz:=by
  rw[dk (sz:=sz) (fun l hl=>by rw[List.eq_of_mem_replicate hl];simpa using hz)]
  simp
 rcases Nat.lt_or_ge i (c*sz) with hi|hi
 ·have hr:i % sz<sz:=Nat.mod_lt _ h0
  have hq:i / sz<c:=Nat.div_lt_of_lt_mul (by rw[Nat.mul_comm];exact hi)
  have h1:(List.replicate c z.toList)[i / sz]?=some z.toList:=by rw[List.getElem?_replicate];simp[hq]
  have h2:z.toList[i % sz]?=some (z[i % sz]'(by omega)):=by simp
  have h3:=qF (sz:=sz) (fun l hl=>by rw[List.eq_of_mem_replicate hl];simpa using hz) h1 h2
  rw[Nat.mul_comm,Nat.div_add_mod]at h3
  simp only[List.toList_toArray]
  rw[h3]
  simp[madeCells,hi,hz,hr]
 ·rw[List.getElem?_eq_none (by simp[madeCells];exact hi),List.getElem?_eq_none (by simp only[List.toList_toArray];omega)]
section
variable {P:Program} {E:Env} {ρ:Ren} {G:GS} {F:List aH} {M:T} {nx:Nat} {w:World}
noncomputable def aha (Ty sz len:Nat) (z:List AV) (ps:List (Nat×AV)) (M:T) (nx:Nat) (K:AV→T→Nat→Bool):Bool:=
 ae (Nat.blt 0 sz) (zP ps z fun cs=>CA sz len cs fun els=>Hs false Ty sz els M nx fun M' n=>K (.sl nx 0 len (.ex len)) M' n)
def rc (P:Program) (Ty sz len:Nat):Option (List Value):=match P.info? Ty with
 |some i=>match i.zero with
  |some z=>bif Nat.beq i.size sz&&Nat.ble (len*sz) 16777216&&Nat.beq z.cells.size sz then some ((List.range (len*sz)).map fun j=>z.cells[j % sz]!) else none
  |none=>none
 |none=>none
theorem aac (hE:cK E) (h:Sim E ρ G F M nx w) {t Ty sz len:Nat} (ht:P.underlying t=some (.slice Ty)) {z:List AV} {zs:List Value} (hz:rc P Ty sz len=some zs) (hzd:ay E ρ z=some zs) {is:List Nat} {ps:List (Nat×Nat)}
  (hp:ru P t is ps=true) {vs:List AV} {ys:List Value} {K:AV→T→Nat→Bool} (hv:ay E ρ vs=some ys) (hlen:vs.length=is.length) (hsz:∀(k:Nat) (p:Nat×Nat) (y:Value),ps[k]?=some p→ys[k]?=some y→y.cells.size=p.2)
  (hk:aha Ty sz len z ((ps.map (·.1)).zip vs) M nx K=true):
  ∃v M' nx' ρ' w' x,ρ.Le ρ'∧Sim E ρ' G F M' nx' w'∧K v M' nx'=true∧den E ρ' v=some x∧(Instr.buildSlice t len (is.zip ys).toArray).run P w= .ok x w':=by
 obtain⟨hs0,hk⟩:=ac hk
 rw[amq]at hs0
 have hp:is.map (kA P t)=ps.map some:=of_decide_eq_true hp
 have hpl:ps.length=is.length:=by have:=congrArg List.length hp;simpa using this.symm
 have hyl:=bA hv
 have h2:((ps.map (·.1)).zip vs).map (·.2)=vs:=by
  rw[List.map_snd_zip];simp;omega
 unfold rc at hz
 rcases hi:P.info? Ty with _|inf
 ·simp[hi]at hz
 rcases hi2:inf.zero with _|z0
 ·simp[hi,hi2]at hz
 simp only[hi,hi2]at hz
 cases hb:(Nat.beq inf.size sz&&Nat.ble (len*sz) 16777216&&Nat.beq z0.cells.size sz) with
 |false=>simp[hb]at hz
 |true=>
 simp only[hb,cond_true,amm]at hz
 simp only[aml,Nat.beq_eq,Nat.ble_eq]at hb
 obtain⟨⟨q1,q2⟩,q3⟩:=hb
 have hszof:bH P Ty=some sz:=by simp[bH,hi,q1]
 have hplc:∀i,kA P t i=some (i*sz,sz):=fun i=>by simp[kA,ht,hszof]
 obtain⟨cs',zs',g1,g2,g3,g4⟩:=tS hE (place:=fun i=>some (i*sz,sz)) (is:=is) (vs:=ys) (zs:=zs.toArray) hk (by simpa using hzd) (by rw[h2];exact hv) (by simp;omega) fun k p i y e1 e2 e3=>by
  have h3:(is.map (kA P t))[k]?=(ps.map some)[k]?:=by rw[hp]
  rw[amn,amn,e2]at h3
  obtain⟨q,hq,hq2⟩:∃q,ps[k]?=some q∧p.1=q.1:=by
   rw[List.getElem?_zip_eq_some,amn]at e1
   obtain⟨e4,_⟩:=e1
   rcases hq:ps[k]? with _|q
   ·rw[hq]at e4;simp at e4
   ·rw[hq]at e4;simp at e4;exact⟨q,rfl,e4.symm⟩
  rw[hq]at h3
  simp only[Option.map_some,amm,hplc]at h3
  rw[h3,hq2,hsz k q y hq e3]
 obtain⟨els,k1,k2,k3,k4⟩:=yN g1
 obtain⟨M',ρ',m1,m2,m3,m4⟩:=wg h k1 k3 hs0 (by rw[k2];exact g2)
 refine⟨_,M',_,ρ',_,_,m1,m3,m4,by simp[den,m2,cw];rfl,?_⟩
 have e1:((Array.range (len*sz)).map (z0.cells[· % z0.cells.size]!))=zs.toArray:=by
  rw[←hz,q3]
  apply Array.ext'
  simp
 have hszr:=Go.Eng.run_sizeOf hszof
 have hzv:(zeroValue Ty:Sem Value).run P w= .ok z0 w:=by simp[zeroValue,typeInfo,hi,hi2]
 simp only[Instr.buildSlice,amf,run_underlying ht,ame,hszr,if_neg (show¬len*sz > 2 ^ 24 by omega)]
 by_cases h0:len*sz=0
 ·have hzs:zs=[]:=by rw[←hz,h0];rfl
  simp only[h0,if_true,Sem.run_pure,ame,Array.range_zero',Array.map_empty]
  rw[hzs]at g3
  simp[g3,newRow,newObj,Sem.run]
 ·simp only[h0,if_false,amf,hzv,ame,Sem.run_pure,e1,g3]
  simp[newRow,newObj,Sem.run]
noncomputable def afv (Ty sz bytes:Nat) (z:List AV) (vl vc:AV) (M:T) (nx:Nat) (K:AV→T→Nat→Bool):Bool:=
 fD vl fun _ l=>fD vc fun _ c=>Int.casesOn l (fun l=>Int.casesOn c (fun c=>ae (Nat.ble l c) (ae (Nat.ble (Nat.mul bytes c) 1000000) (ae (Nat.ble c 1000000) (ae (Nat.blt 0 sz) (ae (Nat.beq (cj z) sz) (Hr z c fun els=>Hs false Ty sz els M nx fun M' n=>K (.sl nx 0 l (.ex c)) M' n))))))
  (fun _=>false)) (fun _=>false)
theorem Yc (h:Sim E ρ G F M nx w) {t Ty sz bytes:Nat} (ht:P.underlying t=some (.slice Ty)) (he:fS P Ty sz bytes=true) {z:List AV} {zs:Array Value} (hz:jA P Ty=some zs) (hzd:ay E ρ z=some zs.toList) {vl vc:AV} {xl xc:Value} (hl:den E ρ vl=some xl) (hc:den E ρ vc=some xc)
  {K:AV→T→Nat→Bool} (hk:afv Ty sz bytes z vl vc M nx K=true):∃v M' nx' ρ' w' x,ρ.Le ρ'∧Sim E ρ' G F M' nx' w'∧K v M' nx'=true∧den E ρ' v=some x∧(Instr.makeSlice t xl xc).run P w= .ok x w':=by
 obtain⟨k1,l,rfl,hk1⟩:=eZ hk
 obtain⟨k2,c,rfl,hk2⟩:=eZ hk1
 cases hl;cases hc
 cases l with
 |negSucc l=>cases hk2
 |ofNat l=>
 cases c with
 |negSucc c=>cases hk2
 |ofNat c=>
 obtain⟨a1,b1⟩:=ac (b:=Nat.ble l c) hk2
 obtain⟨a2,b2⟩:=ac b1
 obtain⟨a3,b3⟩:=ac b2
 obtain⟨a4,b4⟩:=ac b3
 obtain⟨a5,b5⟩:=ac b4
 rw[EX]at b5
 rw[Nat.ble_eq]at a1 a2 a3
 have a2:bytes*c≤1000000:=a2
 rw[amq]at a4
 have a5:z.length=sz:=by rw[←bB];exact al6 a5
 obtain⟨inf,z0,i1,i2,i3,i4,i5,i6⟩:=fH he
 have hz0:zs=z0.cells:=by
  unfold jA at hz
  simp only[i1,Option.bind_some,i2,Option.map_some,amm]at hz
  exact hz.symm
 have hrep:∀n,ay E ρ (List.replicate n z).flatten=some (List.replicate n zs.toList).flatten:=by
  intro n
  induction n with
  |zero=>rfl
  |succ n ih=>simp only[List.replicate_succ,al8];exact dl hzd ih
 obtain⟨M',ρ',m1,m2,m3,m4⟩:=wg h b5 (fun e he=>by rw[List.eq_of_mem_replicate he];exact a5) a4 (hrep c)
 have hcells:madeCells z0.cells (c*inf.size)=(List.replicate c zs.toList).flatten.toArray:=by
  subst hz0
  rw[i3]
  exact Pm (by rw[i4]) i6 c
 refine⟨_,M',_,ρ',_,_,m1,m3,m4,by simp[den,m2,cw];rfl,?_⟩
 have hr:=Go.run_make (P:=P) w t Ty inf z0 ht i1 i2 (ca k1) (ca k2) (Int.ofNat l) (Int.ofNat c) (by simp) (by simp;exact a1) (by
   rw[i5]
   have:((bytes*c:Nat):Int)≤1000000:=by omega
   rw[Int.natCast_mul]at this
   simp only[Int.ofNat_eq_natCast]
   omega) (by simp only[Int.ofNat_eq_natCast];omega)
 rw[hr]
 simp only[Int.ofNat_eq_natCast,Int.toNat_natCast,hcells]
end
section
variable {P:Program} {E:Env} {ρ:Ren} {G:GS} {F:List aH} {M:T} {nx:Nat} {w:World}
noncomputable def faX (off:Nat) (v:AV) (K:AV→Bool):Bool:=fO v fun i o=>fN (Nat.add o off) fun o=>K (.ptr i o)
theorem agH {off:Nat} {v:AV} {K:AV→Bool} {x:Value} {t i:Nat} (h:qH P t i=some off) (hv:den E ρ v=some x) (hk:faX off v K=true):∃u z,den E ρ u=some z∧K u=true∧∀w,(Instr.fieldAt t x i).run P w= .ok z w:=by
 obtain⟨j,o,rfl,k1⟩:=eK hk
 rw[bt]at k1
 simp only[den]at hv
 split at hv
 ·rename_i e he
  cases hv
  refine⟨_,.pointer (some ⟨e.b,o+off,none⟩),by simp only[den,he];rfl,k1,fun w=> ?_⟩
  have h':=h
  unfold qH at h'
  rcases ht:P.underlying t with _|d
  ·simp[ht]at h'
  rw[ht]at h'
  cases d<;>simp at h'
  rename_i fs
  rcases hf:fs[i]? with _|f
  ·simp[hf]at h'
  simp[Instr.fieldAt,Instr.sureAddr,run_underlying ht,hf,nR ht hf h]
 ·cases hv
noncomputable def ae2 (v:AV) (K:AV→Bool):Bool:=AV.casesOn v false (fun k z=>K (.int k z)) (fun b=>K (.bool b)) (fun l=>K (.str l)) (fun i o=>K (.ptr i o)) (fun i o n c=>K (.sl i o n c)) (fun i=>K (.map i)) false false false false false (fun t v=>K (.iface t v)) (fun f c=>K (.fn f c)) (fun _=>false) (fun _=>false) (fun _=>false) (fun _=>false) (fun _=>false)
theorem WJ {v:AV} {K:AV→Bool} {x:Value} (hv:den E ρ v=some x) (hk:ae2 v K=true) {a:Act} {o:Operand} (ha:a.eval o=x) {dst:Option Tmp} {ty:TypeId} {pos:String} {af:Array Edge} {g:Option (Nat×Bool)}:
  K v=true∧∀w,(execOp a.eval ⟨dst,.nilCheck o,ty,pos,af,g⟩).run P w= .ok (.value x) w:=by
 cases v<;>first|(cases hk;done)|skip
 case int k z=>cases hv;exact⟨hk,fun w=>by simp[execOp,ha]⟩
 case bool b=>cases hv;exact⟨hk,fun w=>by simp[execOp,ha]⟩
 case str l=>cases hv;exact⟨hk,fun w=>by simp[execOp,ha]⟩
 all_goals
  refine⟨hk,fun w=> ?_⟩
  unfold den at hv
  split at hv<;>first|(cases hv;done)|skip
  cases hv
  simp[execOp,ha]
noncomputable def rK (v:AV) (K:Nat→Nat→Bool):Bool:=fD v fun k z=>Int.casesOn z (fun n=>K k n) (fun _=>false)
theorem mF {v:AV} {K:Nat→Nat→Bool} (h:rK v K=true):∃k n,v= .int k (.ofNat n)∧K k n=true:=by
 obtain⟨k,z,rfl,h1⟩:=eZ h
 cases z with
 |ofNat n=>exact⟨k,n,rfl,h1⟩
 |negSucc n=>cases h1
noncomputable def af7 (n sz:Nat) (v iv:AV) (K:AV→Bool):Bool:=fO v fun i o=>rK iv fun _ z=>ae (Nat.blt z n) (fN (Nat.add o (Nat.mul z sz)) fun o=>K (.ptr i o))
theorem YH {n sz:Nat} {v iv:AV} {K:AV→Bool} {x y:Value} {t e:TypeId} (ht:P.underlying t=some (.array n e)) (hs:bH P e=some sz) (hv:den E ρ v=some x) (hi:den E ρ iv=some y) (hk:af7 n sz v iv K=true):
  ∃u z,den E ρ u=some z∧K u=true∧∀w,(Instr.indexAt t x y).run P w= .ok z w:=by
 obtain⟨j,o,rfl,k1⟩:=eK hk
 obtain⟨kd,z,rfl,k2⟩:=mF k1
 obtain⟨hz,k3⟩:=ac k2
 rw[bt]at k3
 rw[amq]at hz
 simp only[den]at hv
 split at hv
 ·rename_i f hf
  cases hv;cases hi
  refine⟨_,.pointer (some ⟨f.b,o+z*sz,none⟩),by simp only[den,hf];rfl,k3,fun w=> ?_⟩
  simp[Instr.indexAt,Instr.sureAddr,asIntOf,run_underlying ht,Go.Eng.run_sizeOf hs,hz,bQ]
 ·cases hv
noncomputable def af5 (sz:Nat) (v iv:AV) (K:AV→Bool):Bool:=kz v false fun i o n _=>rK iv fun _ z=>ae (Nat.blt z n) (fN (Nat.add o (Nat.mul z sz)) fun o=>K (.ptr i o))
theorem YF {sz:Nat} {v iv:AV} {K:AV→Bool} {x y:Value} {t e:TypeId} (ht:P.underlying t=some (.slice e)) (hs:bH P e=some sz) (hv:den E ρ v=some x) (hi:den E ρ iv=some y) (hk:af5 sz v iv K=true):
  ∃u z,den E ρ u=some z∧K u=true∧∀w,(Instr.indexAt t x y).run P w= .ok z w:=by
 rcases fC hk with⟨_,k1⟩|⟨j,o,n,c,rfl,k1⟩
 ·cases k1
 obtain⟨kd,z,rfl,k2⟩:=mF k1
 obtain⟨hz,k3⟩:=ac k2
 rw[bt]at k3
 rw[amq]at hz
 simp only[den]at hv
 split at hv
 ·rename_i f hf
  cases hv;cases hi
  refine⟨_,.pointer (some ⟨f.b,o+z*sz,none⟩),by simp only[den,hf];rfl,k3,fun w=> ?_⟩
  simp[Instr.indexAt,asIntOf,run_underlying ht,Go.Eng.run_sizeOf hs,hz,bQ]
 ·cases hv
noncomputable def agE (agg:Bool) (off n:Nat) (v:AV) (K:AV→Bool):Bool:=asAgg v fun cs=>aM agg (tak (ou cs off) n fun l=>K (.agg l)) (bF (bS cs off) K)
theorem wk {agg:Bool} {off n:Nat} {cs:List AV} {K:AV→Bool} {xs:List Value} (hd:ay E ρ cs=some xs) (hk:aM agg (tak (ou cs off) n fun l=>K (.agg l)) (bF (bS cs off) K)=true) {t:TypeId} (hag:fG P t=some agg) (hs:bH P t=some n):
  ∃u z,den E ρ u=some z∧K u=true∧∀w,(part t xs.toArray off).run P w= .ok z w:=by
 rcases aL hk with⟨rfl,k1⟩|⟨rfl,k1⟩
 ·obtain⟨k2,hle⟩:=iL k1
  rw[mp]at k2 hle
  have hd2:=kg n (iB off hd)
  refine⟨_,.agg ((xs.drop off).take n).toArray,by simp only[den,hd2],k2,fun w=> ?_⟩
  simp[part,Go.Eng.run_isAgg hag,Go.Eng.run_sizeOf hs]
 ·obtain⟨u,hu,k2⟩:=aT k1
  rw[cx]at hu
  obtain⟨z,h1,h2⟩:=eS hd hu
  refine⟨u,z,h1,k2,fun w=> ?_⟩
  simp[part,Go.Eng.run_isAgg hag,h2]
theorem ZE {agg:Bool} {off n:Nat} {v:AV} {K:AV→Bool} {x:Value} {t i:TypeId} {fs:Array Field} {f:Field} (ht:P.underlying t=some (.struct fs)) (hf:fs[i]?=some f) (ho:f.offset=off) (hag:fG P f.type=some agg) (hs:bH P f.type=some n)
  (hv:den E ρ v=some x) (hk:agE agg off n v K=true):∃u z,den E ρ u=some z∧K u=true∧∀w,(Instr.field t x i).run P w= .ok z w:=by
 obtain⟨cs,rfl,k1⟩:=dz hk
 simp only[den]at hv
 split at hv
 ·rename_i xs hd
  cases hv
  obtain⟨u,z,h1,h2,h3⟩:=wk hd k1 hag hs
  refine⟨u,z,h1,h2,fun w=> ?_⟩
  subst ho
  simp[Instr.field,run_underlying ht,hf,Go.asAgg,h3]
 ·cases hv
noncomputable def af3 (agg:Bool) (n sz:Nat) (v i:AV) (K:AV→Bool):Bool:=asAgg v fun cs=>rK i fun _ j=>ae (Nat.blt j n) (aM agg (tak (ou cs (Nat.mul j sz)) sz fun l=>K (.agg l)) (bF (bS cs (Nat.mul j sz)) K))
theorem YD {agg:Bool} {n sz:Nat} {v i:AV} {K:AV→Bool} {x y:Value} {t e:TypeId} (ht:P.underlying t=some (.array n e)) (hag:fG P e=some agg) (hs:bH P e=some sz)
  (hv:den E ρ v=some x) (hi:den E ρ i=some y) (hk:af3 agg n sz v i K=true):∃u z,den E ρ u=some z∧K u=true∧∀w,(Instr.index t x y).run P w= .ok z w:=by
 obtain⟨cs,rfl,k1⟩:=dz hk
 obtain⟨k,j,rfl,k2⟩:=mF k1
 obtain⟨k3,k4⟩:=ac k2
 rw[amq]at k3
 simp only[den]at hv
 cases hi
 split at hv
 ·rename_i xs hd
  cases hv
  obtain⟨u,z,h1,h2,h3⟩:=wk hd k4 hag hs
  refine⟨u,z,h1,h2,fun w=> ?_⟩
  have hj:(j:Int)<(n:Int):=by omega
  have e:((j:Int)).toNat=j:=Int.toNat_natCast j
  have hm:Nat.mul j sz=j*sz:=rfl
  rw[hm]at h3
  simp[Instr.index,asIntOf,run_underlying ht,Go.Eng.run_sizeOf hs,k3,h3]
 ·cases hv
noncomputable def tg (d:Nat) (o:Option AV) (K:Nat→Bool):Bool:=Option.casesOn o (K d) fun v=>rK v fun _ n=>K n
theorem lw {d:Nat} {o:Option AV} {K:Nat→Bool} (h:tg d o K=true):∃n,K n=true∧((o=none∧n=d)∨∃k,o=some (.int k (.ofNat n))):=by
 cases o with
 |none=>exact⟨d,h,.inl ⟨rfl,rfl⟩⟩
 |some v=>
  obtain⟨k,n,rfl,h1⟩:=mF (v:=v) h
  exact⟨n,h1,.inr ⟨k,rfl⟩⟩
def mq (E:Env) (ρ:Ren) (o:Option AV) (x:Option Value):Prop:=(o=none∧x=none)∨∃v y,o=some v∧x=some y∧den E ρ v=some y
theorem fJ {o:Option AV} {x:Option Value} {d n:Nat} (h:mq E ρ o x) (hn:(o=none∧n=d)∨∃k,o=some (.int k (.ofNat n))):(x=none∧n=d)∨∃k,x=some (.int k (.ofNat n)):=by
 rcases h with⟨rfl,rfl⟩|⟨v,y,rfl,rfl,hd⟩
 ·rcases hn with⟨_,rfl⟩|⟨k,hk⟩
  ·exact .inl ⟨rfl,rfl⟩
  ·cases hk
 ·rcases hn with⟨hh,_⟩|⟨k,hk⟩
  ·cases hh
  ·cases hk;cases hd;exact .inr ⟨_,rfl⟩
theorem ck {isS:Bool} {len cap:Nat} {lo hi mx:Option Value} {l h m:Nat} (hl:(lo=none∧l=0)∨∃k,lo=some (.int k (.ofNat l))) (hh:(hi=none∧h=len)∨∃k,hi=some (.int k (.ofNat h))) (hm:(mx=none∧m=cap)∨∃k,mx=some (.int k (.ofNat m)))
  (hmh:mx≠none→hi≠none) (h1:l≤h) (h2:h≤m) (h3:m≤cap) (w:World):(Instr.sliceBounds isS len cap lo hi mx).run P w= .ok (l,h,m) w:=by
 have sb:∀(k:IntKind) (n y:Nat) (c:BoundsCode),n≤y→(Instr.sliceBound (.int k (n:Int)) y c).run P w= .ok n w:=by
  intro k n y c hn
  simp[Instr.sliceBound,asIntOf,hn]
 rcases hm with⟨rfl,rfl⟩|⟨km,rfl⟩
 ·rcases hh with⟨rfl,rfl⟩|⟨kh,rfl⟩
  ·rcases hl with⟨rfl,rfl⟩|⟨kl,rfl⟩
   ·simp[Instr.sliceBounds]
   ·simp[Instr.sliceBounds,sb _ _ _ _ h1]
  ·rcases hl with⟨rfl,rfl⟩|⟨kl,rfl⟩
   ·simp[Instr.sliceBounds,sb _ _ _ _ h2]
   ·simp[Instr.sliceBounds,sb _ _ _ _ h2,sb _ _ _ _ h1]
 ·rcases hh with⟨rfl,rfl⟩|⟨kh,rfl⟩
  ·exact absurd rfl (hmh (by simp))
  ·rcases hl with⟨rfl,rfl⟩|⟨kl,rfl⟩
   ·simp[Instr.sliceBounds,sb _ _ _ _ h2,sb _ _ _ _ h3]
   ·simp[Instr.sliceBounds,sb _ _ _ _ h2,sb _ _ _ _ h3,sb _ _ _ _ h1]
noncomputable def fw {α:Type _} (o:Option α):Bool:=Option.casesOn o false fun _=>true
noncomputable def aef (sz:Nat) (v:AV) (lo hi mx:Option AV) (M:T) (K:AV→Bool):Bool:=
 kz v (tg 0 lo fun l=>tg 0 hi fun h=>tg 0 mx fun m=>ae (Nat.beq l 0) (ae (Nat.beq h 0) (ae (Nat.beq m 0) (ae (Bool.or (Bool.not (fw mx)) (fw hi)) (K .nilS)))))
  fun i o n c=>tg 0 lo fun l=>tg n hi fun h=>ae (Nat.ble l h) (Option.casesOn mx
   (ACap.casesOn c
    (fun cc=>ae (Nat.ble h cc) (aM (Nat.beq cc l) (fN (Nat.sub h l) fun hl=>fN (Nat.sub cc l) fun cl=>K (.sl i o hl (.ex cl))) (fN (Nat.sub h l) fun hl=>fN (Nat.sub cc l) fun cl=>fN (Nat.add o (Nat.mul l sz)) fun o'=>K (.sl i o' hl (.ex cl)))))
    (fun k=>ae (Nat.ble h n) (cA M i fun g _ _ els=>ae g (ae (Nat.ble (Nat.add k n) (cj els)) (fN (Nat.sub h l) fun hl=>fN (Nat.add k l) fun kl=>fN (Nat.add o (Nat.mul l sz)) fun o'=>
     aM (Nat.blt l n) (K (.sl i o' hl (.rest kl))) (ae (K (.sl i o' hl (.rest kl))) (K (.sl i o hl (.ex 0)))))))))
   (fun _=>ae (fw hi) (tg 0 mx fun m=>ae (Nat.ble h m) (ae (ACap.casesOn c (fun cc=>Nat.ble m cc) (fun _=>false))
    (fN (Nat.sub h l) fun hl=>fN (Nat.sub m l) fun ml=>aM (Nat.beq m l) (K (.sl i o hl (.ex ml))) (fN (Nat.add o (Nat.mul l sz)) fun o'=>K (.sl i o' hl (.ex ml))))))))
theorem Wa (h:Sim E ρ G F M nx w) {sz:Nat} {v:AV} {lo hi mx:Option AV} {K:AV→Bool} {x:Value} {xl xh xm:Option Value} {t e:TypeId} (ht:P.underlying t=some (.slice e)) (hs:bH P e=some sz) (hv:den E ρ v=some x)
  (hlo:mq E ρ lo xl) (hhi:mq E ρ hi xh) (hmx:mq E ρ mx xm) (hk:aef sz v lo hi mx M K=true):∃u z,den E ρ u=some z∧K u=true∧(Instr.sliceAt t x xl xh xm).run P w= .ok z w:=by
 have hrun:∀(ao:Option Addr) (n c l hh m:Nat),(Instr.sliceBounds true n c xl xh xm).run P w= .ok (l,hh,m) w→(Instr.sliceAt t (.slice ao n c) xl xh xm).run P w= .ok (.slice (if m=l then ao else ao.map (·.add (l*sz))) (hh - l) (m - l)) w:=by
  intro ao n c l hh m hb
  simp[Instr.sliceAt,Instr.slice,run_underlying ht,hb,Go.Eng.run_sizeOf hs]
 have hmh:mx=none→xm=none:=fun q=>by
  rcases hmx with⟨_,h2⟩|⟨_,_,h2,_⟩
  ·exact h2
  ·rw[q]at h2;cases h2
 rcases fC hk with⟨rfl,k1⟩|⟨i,o,n,c,rfl,k1⟩
 ·obtain⟨l,k2,hl⟩:=lw k1
  obtain⟨hh,k3,hh2⟩:=lw k2
  obtain⟨m,k4,hm⟩:=lw k3
  obtain⟨e1,k5⟩:=ac k4
  obtain⟨e2,k6⟩:=ac k5
  obtain⟨e3,k7⟩:=ac k6
  obtain⟨e4,k7⟩:=ac k7
  have e1:=al6 e1
  have e2:=al6 e2
  have e3:=al6 e3
  subst e1;subst e2;subst e3
  cases hv
  refine⟨.nilS,.slice none 0 0,rfl,k7,?_⟩
  by_cases hx:xm≠none∧xh=none
  ·exfalso
   rcases hmx with⟨_,q⟩|⟨v',y,q1,q2,_⟩
   ·exact hx.1 q
   ·rcases hhi with⟨p1,_⟩|⟨v'',y',p1,p2,_⟩
    ·subst q1;subst p1;cases e4
    ·rw[p2]at hx;cases hx.2
  ·rw[hrun none 0 0 0 0 0 (ck (fJ hlo hl) (fJ hhi hh2) (fJ hmx hm) (fun q q2=>hx ⟨q,q2⟩) (amj _) (amj _) (amj _) w)]
   simp
 ·obtain⟨l,k2,hl⟩:=lw k1
  obtain⟨hh,k3,hh2⟩:=lw k2
  obtain⟨hle,k4⟩:=ac k3
  rw[Nat.ble_eq]at hle
  simp only[den]at hv
  split at hv
  case h_2=>cases hv
  rename_i f hf
  cases hv
  cases mx with
  |none=>
   have hxm:=hmh rfl
   subst hxm
   cases c with
   |ex cc=>
    obtain⟨hc,k5⟩:=ac k4
    rw[Nat.ble_eq]at hc
    have hb:=ck (P:=P) (isS:=true) (len:=n) (fJ hlo hl) (fJ hhi hh2) (.inl ⟨rfl,rfl⟩) (fun q=>absurd rfl q) hle hc (amj cc) w
    have hr:=hrun (some ⟨f.b,o,none⟩) n cc l hh cc hb
    rcases aL k5 with⟨q,k6⟩|⟨q,k6⟩
    ·have q:=al6 q
     subst q
     rw[bt,bt]at k6
     exact⟨_,.slice (some ⟨f.b,o,none⟩) (hh - cc) (cc - cc),by simp only[den,hf,cw];rfl,k6,by simpa[cw] using hr⟩
    ·rw[Hz,decide_eq_false_iff_not]at q
     rw[bt,bt,bt]at k6
     exact⟨_,.slice (some ⟨f.b,o+l*sz,none⟩) (hh - l) (cc - l),by simp only[den,hf,cw];rfl,k6,by simpa[cw,q,bQ] using hr⟩
   |rest k=>
    obtain⟨hn,k5⟩:=ac k4
    rw[Nat.ble_eq]at hn
    obtain⟨g,Ty,sz',els,hi',k6⟩:=bE k5
    obtain⟨hg,k7⟩:=ac k6
    subst hg
    obtain⟨hkn,k8⟩:=ac k7
    rw[Nat.ble_eq,bB]at hkn
    have hkn:k+n≤els.length:=hkn
    obtain⟨f2,arr,xs,q1,_,_,_,_,_,_,_,q9⟩:=h.cellsAt hi'
    rw[hf]at q1;cases q1
    obtain⟨_,q10,_⟩:=q9 rfl
    have hcap:n≤f.cap - k:=by omega
    have hb:=ck (P:=P) (isS:=true) (len:=n) (cap:=f.cap - k) (fJ hlo hl) (fJ hhi hh2) (.inl ⟨rfl,rfl⟩) (fun q=>absurd rfl q) hle (by omega) (amj _) w
    have hr:=hrun (some ⟨f.b,o,none⟩) n (f.cap - k) l hh (f.cap - k) hb
    rw[bt,bt,bt]at k8
    rcases aL k8 with⟨q,k9⟩|⟨q,k9⟩
    ·rw[amq]at q
     exact⟨_,.slice (some ⟨f.b,o+l*sz,none⟩) (hh - l) (f.cap - (k+l)),by simp only[den,hf,cw];rfl,k9,by
      have:¬f.cap - k=l:=by omega
      simpa[cw,this,bQ,Nat.sub_sub] using hr⟩
    ·obtain⟨k10,k11⟩:=ac k9
     by_cases q2:f.cap - k=l
     ·exact⟨_,.slice (some ⟨f.b,o,none⟩) (hh - l) 0,by simp only[den,hf,cw];rfl,k11,by simpa[cw,q2] using hr⟩
     ·exact⟨_,.slice (some ⟨f.b,o+l*sz,none⟩) (hh - l) (f.cap - (k+l)),by simp only[den,hf,cw];rfl,k10,by
       simpa[cw,q2,bQ,Nat.sub_sub] using hr⟩
  |some mv=>
   obtain⟨hih,k5⟩:=ac (b:=fw hi) k4
   obtain⟨m,k6,hm⟩:=lw k5
   obtain⟨hhm,k7⟩:=ac k6
   obtain⟨hmc,k8⟩:=ac k7
   rw[Nat.ble_eq]at hhm
   cases c with
   |rest k=>cases hmc
   |ex cc=>
   have hmc:m≤cc:=by
    have:Nat.ble m cc=true:=hmc
    rwa[Nat.ble_eq]at this
   have hxh:xh≠none:=by
    rcases hhi with⟨q,_⟩|⟨_,_,_,q,_⟩
    ·rw[q]at hih;cases hih
    ·rw[q];simp
   have hmd:(xm=none∧m=cc)∨∃k,xm=some (.int k (.ofNat m)):=by
    rcases hmx with⟨q,_⟩|⟨v',y,q1,q2,q3⟩
    ·cases q
    ·rcases hm with⟨q,_⟩|⟨k,q⟩
     ·cases q
     ·cases q1;cases q;cases q3
      exact .inr ⟨_,q2⟩
   have hb:=ck (P:=P) (isS:=true) (len:=n) (cap:=cc) (fJ hlo hl) (fJ hhi hh2) hmd (fun _=>hxh) hle hhm hmc w
   have hr:=hrun (some ⟨f.b,o,none⟩) n cc l hh m hb
   rw[bt,bt]at k8
   rcases aL k8 with⟨q,k9⟩|⟨q,k9⟩
   ·have q:=al6 q
    subst q
    exact⟨_,.slice (some ⟨f.b,o,none⟩) (hh - m) (m - m),by simp only[den,hf,cw];rfl,k9,by simpa[cw] using hr⟩
   ·rw[Hz,decide_eq_false_iff_not]at q
    rw[bt]at k9
    exact⟨_,.slice (some ⟨f.b,o+l*sz,none⟩) (hh - l) (m - l),by simp only[den,hf,cw];rfl,k9,by simpa[cw,q,bQ] using hr⟩
end
section
variable {P:Program} {E:Env} {ρ:Ren} {G:GS} {F:List aH} {M:T} {nx:Nat} {w:World}
noncomputable def Jc (sz:Nat) (v:AV) (M:T) (K:List (List AV)→Bool):Bool:=
 kz v (K []) fun i o n _=>Nat.casesOn n (K []) fun _=>cA M i fun _ _ sz' els=>ae (Nat.beq sz sz') (ae (Nat.beq (Nat.mod o sz) 0) (tak (ou els (Nat.div o sz)) n K))
theorem xD (h:Sim E ρ G F M nx w) {sz:Nat} {v:AV} {K:List (List AV)→Bool} {x:Value} (hv:den E ρ v=some x) (hk:Jc sz v M K=true):
  ∃els xs ao n c,K els=true∧ay E ρ els.flatten=some xs∧x= .slice ao n c∧els.length=n∧(∀l∈els,l.length=sz)∧xs.length=n*sz∧(0<n→∃b o,ao=some ⟨b,o,none⟩∧∀j u,xs[j]?=some u→w.cell? ⟨b,o+j,none⟩=some u):=by
 rcases fC hk with⟨rfl,k1⟩|⟨i,o,n,c,rfl,k1⟩
 ·cases hv
  exact⟨[],[],none,0,0,k1,rfl,rfl,rfl,by simp,by simp,fun q=>by omega⟩
 ·simp only[den]at hv
  split at hv
  case h_2=>cases hv
  rename_i e he
  cases hv
  cases n with
  |zero=>exact⟨[],[],_,0,_,k1,rfl,rfl,rfl,by simp,by simp,fun q=>by omega⟩
  |succ n=>
   obtain⟨g,Ty,sz',els,hi,k2⟩:=bE k1
   obtain⟨q1,k3⟩:=ac k2
   obtain⟨q2,k4⟩:=ac k3
   have q1:=al6 q1
   have q2:=al6 q2
   subst q1
   obtain⟨k5,hle⟩:=iL k4
   rw[mp]at k5 hle
   obtain⟨e',arr,xs,e1,e2,e3,e4,e5,e6,e7,_⟩:=h.cellsAt hi
   rw[he]at e1;cases e1
   have ho:o / sz*sz=o:=by
    have:=Nat.div_add_mod o sz
    have q2:o % sz=0:=q2
    rw[q2,Nat.add_zero,Nat.mul_comm]at this
    exact this
   have hall:∀l∈(els.drop (o / sz)).take (n+1),l.length=sz:=fun l hl=>e4 l (List.mem_of_mem_drop (List.mem_of_mem_take hl))
   have hsplit:els.flatten=(els.take (o / sz)).flatten++((els.drop (o / sz)).take (n+1)).flatten++((els.drop (o / sz)).drop (n+1)).flatten:=by
    rw[←List.flatten_append,←List.flatten_append,amb,List.take_append_drop,List.take_append_drop]
   have hle:n+1≤(els.drop (o / sz)).length:=hle
   have hpre:(els.take (o / sz)).flatten.length=o:=by
    rw[dk (sz:=sz) (fun l hl=>e4 l (List.mem_of_mem_take hl)),ami,Nat.min_eq_left (by rw[amr]at hle;omega),ho]
   rw[hsplit]at e3
   obtain⟨ab,c3,d1,d2,d3⟩:=dy e3
   obtain⟨c1,c2,d4,d5,d6⟩:=dy d1
   have hc1:=bA d4
   have hc2:=bA d5
   refine⟨_,c2,_,n+1,_,k5,d5,rfl,by rw[ami];exact Nat.min_eq_left hle,hall,?_,fun _=>⟨e.b,o,rfl,fun j u hu=> ?_⟩⟩
   ·rw[hc2,dk hall,ami,Nat.min_eq_left hle]
   ·have hx:xs[o+j]?=some u:=by
     rw[d3,d6,amb,List.getElem?_append_right (by omega),show o+j - c1.length=j by omega,List.getElem?_append_left (List.getElem?_eq_some_iff.1 hu).1]
     exact hu
    have hlt:=(List.getElem?_eq_some_iff.1 hx).1
    rw[←e7,amk hlt]at hx
    simp only[World.cell?,e2]
    simpa using hx
theorem cX (t ty e:TypeId) (ht:P.underlying t=some (.slice e)) {sz:Nat} (hs:bH P e=some sz) (base:Option Addr) (n cap:Nat) (hle:n≤cap) (ao:Option Addr) (c:Nat):
  (Builtin.append_ #[t,t] ty #[.slice base n cap,.slice ao 0 c]).run P w= .ok (.slice base n cap) w:=by
 have h1:(Builtin.firstCells sz 0 (.slice ao 0 c)).run P w= .ok #[] w:=by cases ao<;>simp[Builtin.firstCells,loadCells,loadCellsFrom]
 cases base<;>simp[Builtin.append_,run_underlying ht,Go.Eng.run_sizeOf hs,Builtin.lenOf,hle,h1,storeCells]
noncomputable def lim (bytes a:Nat):Bool:=Bool.and (Nat.ble a 100000000) (Nat.ble (Nat.mul a bytes) 100000000)
theorem Lh {bytes a:Nat} (h:lim bytes a=true):a≤100000000∧a*bytes≤100000000:=by
 have h':(Nat.ble a 100000000&&Nat.ble (Nat.mul a bytes) 100000000)=true:=h
 rw[aml,Nat.ble_eq,Nat.ble_eq]at h'
 exact h'
noncomputable def ahn (Ty sz bytes:Nat) (v1 v2:AV) (M:T) (nx:Nat) (K:AV→T→Nat→Bool):Bool:=
 Jc sz v2 M fun news=>ae (qV news.flatten) (
  kz v1
   (List.casesOn news (K .nilS M nx) fun _ _=>ae (lim bytes (cj news)) (T.set aP M nx (some (.blk true Ty sz news)) fun M'=>fN (Nat.succ nx) fun n=>fN (cj news) fun m=>K (.sl nx 0 m (.rest 0)) M' n))
   fun i o n c=>List.casesOn news
    (ACap.casesOn c (fun cc=>ae (Nat.ble n cc) (K v1 M nx)) (fun k=>cA M i fun g _ _ els=>ae g (ae (Nat.ble (Nat.add k n) (cj els)) (K v1 M nx))))
    fun _ _=>ae (lim bytes (Nat.add n (cj news))) (ACap.casesOn c
     (fun cc=>aM (Nat.ble (Nat.add n (cj news)) cc)
      (ae (Nat.beq o 0) (cA M i fun g Ty' sz' els=>ae (Bool.not g) (ae (Nat.beq Ty' Ty) (ae (Nat.beq sz' sz) (upd els n news fun els'=>T.set aP M i (some (.blk false Ty sz els')) fun M'=>fN (Nat.add n (cj news)) fun m=>K (.sl i 0 m (.ex cc)) M' nx)))))
      (Jc sz v1 M fun olds=>app olds news fun els=>T.set aP M nx (some (.blk true Ty sz els)) fun M'=>fN (Nat.succ nx) fun q=>fN (Nat.add n (cj news)) fun m=>K (.sl nx 0 m (.rest 0)) M' q))
     (fun k=>ae (Nat.beq k 0) (ae (Nat.beq o 0) (cA M i fun g Ty' sz' els=>ae g (ae (Nat.beq (cj els) n) (ae (Nat.beq Ty' Ty) (ae (Nat.beq sz' sz)
      (app els news fun els'=>T.set aP M i none fun M1=>T.set aP M1 nx (some (.blk true Ty sz els')) fun M'=>fN (Nat.succ nx) fun q=>fN (Nat.add n (cj news)) fun m=>K (.sl nx 0 m (.rest 0)) M' q)))))))))
theorem wl {e size n:Nat} {xs:List Value} {v:Value} {base:Nat} {w':World} (h:w'.ownsRow base e size v n xs) (h0:0<n):∃g cap cur,v= .slice (some ⟨g,0,none⟩) n cap∧base≤g∧w'.heap[g]?=some (.cells cur e (0,0))∧n≤cap∧cap≤maxLen∧cur.size=cap*size∧cur.toList.take (n*size)=xs∧xs.length=n*size:=by
 obtain⟨hl,h1⟩:=h
 rcases h1 with⟨_,hz⟩|⟨g,cap,cur,rfl,h0,h2,h3,h4,h5,h6⟩
 ·omega
 ·exact⟨g,cap,cur,rfl,h0,h2,h3,h4,h5,h6,hl⟩
theorem aal (hE:cK E) (h:Sim E ρ G F M nx w) {t ty Ty sz bytes:Nat} (ht:P.underlying t=some (.slice Ty)) (he:fS P Ty sz bytes=true) {v1 v2:AV} {K:AV→T→Nat→Bool} {x1 x2:Value} (h1:den E ρ v1=some x1) (h2:den E ρ v2=some x2)
  (hk:ahn Ty sz bytes v1 v2 M nx K=true):∃v M' nx' ρ' w' x,ρ.Le ρ'∧Sim E ρ' G F M' nx' w'∧K v M' nx'=true∧den E ρ' v=some x∧(Builtin.append_ #[t,t] ty #[x1,x2]).run P w= .ok x w':=by
 obtain⟨news,ns,ao,m,c2,k0,n1,rfl,n2,n3,n4,n5⟩:=xD h h2 hk
 obtain⟨kone,k1⟩:=ac k0
 have hone:=kV hE kone n1
 have hone':∀u∈ns,Value.oneCell' u=true:=fun u hu=>List.all_eq_true.1 hone u hu
 obtain⟨inf,z,i1,i2,i3,i4,i5,i6⟩:=fH he
 have hs:bH P Ty=some sz:=by simp[bH,i1,i3]
 have hm63:maxLen=9223372036854775807:=rfl
 have h0:=h.fresh nx (amj _)
 -- a new row,in a new block or the old one
 have fin:∀{i:Nat} {old:Option Nat} {M':T} {els:List (List AV)} {v':Value} {w':World} {mm:Nat} {ys:List Value} {base:Nat},(∀b,old=some b→∃e o,M.get i=some o∧ρ i=some e∧e.b=b∧bC e o=true)→w.grownBy w' old→w'.ownsRow base Ty sz v' mm ys→0<mm→
   (v'.ownBlock=old∨v'.ownBlock=some w.heap.size∨w.heap.size≤base)→ay E ρ els.flatten=some ys→(∀l∈els,l.length=sz)→els.length=mm→M'.get nx=some (.blk true Ty sz els)→(∀m,m≠nx→m≠i→M'.get m=M.get m)→(i≠nx→M'.get i=none)→K (.sl nx 0 mm (.rest 0)) M' (nx+1)=true→
   (Builtin.append_ #[t,t] ty #[x1,.slice ao m c2]).run P w= .ok v' w'→∃v M' nx' ρ' w' x,ρ.Le ρ'∧Sim E ρ' G F M' nx' w'∧K v M' nx'=true∧den E ρ' v=some x∧(Builtin.append_ #[t,t] ty #[x1,.slice ao m c2]).run P w= .ok x w':=by
  intro i old M' els v' w' mm ys base g1 g2 g3 g4 g5 g6 g7 g8 g9 g10 g11 g12 g13
  obtain⟨g,cap,cur,rfl,r1,r2,r3,r4,r5,r6,r7⟩:=wl g3 g4
  have hb':old=some g∨w.heap.size≤g:=by
   rcases g5 with e|e|e
   ·exact .inl (by rw[←e];rfl)
   ·simp[Value.ownBlock]at e;exact .inr (by omega)
   ·exact .inr (by omega)
  refine⟨_,M',nx+1,ρ.set nx ⟨g,cap⟩,w',_,Ren.le_set _ h0,h.regrow (i:=i) (o':=.blk true Ty sz els) h0 (Nat.le_succ _) (Nat.lt_succ_self _) g1 g2 r2 hb' ⟨g7,i6,cur,ys,rfl,g6,?_⟩ g9 g10 g11,g12,?_,g13⟩
  ·simp only[cond_true]
   rw[g8]
   exact⟨r5,r6,r3,r4⟩
  ·simp only[den,Ren.set_self,cw,Nat.sub_zero]
 rcases fC k1 with⟨rfl,k2⟩|⟨i,o,n,c,rfl,k2⟩
 ·cases h1
  cases news with
  |nil=>
   simp at n2
   subst n2
   exact⟨.nilS,M,nx,ρ,w,_,Ren.Le.refl _,h,k2,rfl,cX t ty Ty ht hs none 0 0 (amj _) ao c2⟩
  |cons a r=>
   obtain⟨hl,k3⟩:=ac k2
   obtain⟨M',k4,s1,s2⟩:=T.set_ok _ _ _ _ _ k3
   rw[bt,bt,bB,n2]at k4
   rw[bB,n2]at hl
   obtain⟨l1,l2⟩:=Lh hl
   have hm:0<m:=by rw[←n2];simp
   obtain⟨b,ob,rfl,hc⟩:=n5 hm
   obtain⟨v',w',r1,r2,r3,_,r5⟩:=run_append_own_at (P:=P) w 0 t ty Ty inf z sz bytes ht i1 i2 i3 i5 i4 i6 (.slice none 0 0) 0 [] (World.ownsRow_nil w _ Ty sz) ⟨b,ob,none⟩ m c2 ns n4 (fun j u hu=>by rw[bQ];exact hc j u hu) hone' (by omega) (by rw[Nat.zero_add];omega) (Nat.zero_le _)
   rw[Nat.zero_add,amc]at r2
   exact fin (i:=nx) (old:=none) (fun b q=>by cases q) r3 r2 hm (r5.imp id .inl) n1 n3 n2 s1 (fun m' q _=>s2 m' q) (fun q=>absurd rfl q) k4 r1
 ·simp only[den]at h1
  split at h1
  case h_2=>cases h1
  rename_i e hei
  cases h1
  cases news with
  |nil=>
   simp at n2
   subst n2
   cases c with
   |ex cc=>
    obtain⟨hle,k3⟩:=ac k2
    rw[Nat.ble_eq]at hle
    exact⟨_,M,nx,ρ,w,_,Ren.Le.refl _,h,k3,by simp only[den,hei],cX t ty Ty ht hs _ n (cw e (.ex cc)) hle ao c2⟩
   |rest k=>
    obtain⟨g,Ty',sz',els,hi,k3⟩:=bE k2
    obtain⟨hg,k4⟩:=ac k3
    subst hg
    obtain⟨hkn,k5⟩:=ac k4
    rw[Nat.ble_eq,bB]at hkn
    have hkn:k+n≤els.length:=hkn
    obtain⟨f2,arr,xs,q1,_,_,_,_,_,_,_,q9⟩:=h.cellsAt hi
    rw[hei]at q1;cases q1
    obtain⟨_,q10,_⟩:=q9 rfl
    exact⟨_,M,nx,ρ,w,_,Ren.Le.refl _,h,k5,by simp only[den,hei],cX t ty Ty ht hs _ n (cw e (.rest k)) (by simp only[cw];omega) ao c2⟩
  |cons a r=>
   obtain⟨hl,k3⟩:=ac k2
   rw[bB,n2]at hl
   obtain⟨l1,l2⟩:=Lh hl
   have l1:n+m≤100000000:=l1
   have l2:(n+m)*bytes≤100000000:=l2
   have hm:0<m:=by rw[←n2];simp
   obtain⟨b,ob,rfl,hc⟩:=n5 hm
   cases c with
   |ex cc=>
    rcases aL k3 with⟨hcc,k4⟩|⟨hcc,k4⟩
    ·have hcc:n+(a::r).length≤cc:=by
      rw[bB]at hcc
      exact Nat.le_of_ble_eq_true hcc
     rw[n2]at hcc
     obtain⟨ho,k5⟩:=ac k4
     have ho:=al6 ho
     subst ho
     obtain⟨g,Ty',sz',els,hi,k6⟩:=bE k5
     obtain⟨hg,k7⟩:=ac k6
     obtain⟨hT,k8⟩:=ac k7
     obtain⟨hS,k9⟩:=ac k8
     have hT:=al6 hT
     have hS:=al6 hS
     subst hT;subst hS
     have hg:g=false:=by cases g<;>first|rfl|cases hg
     subst hg
     obtain⟨k10,hle⟩:=bG k9
     obtain⟨M',k11,s1,s2⟩:=T.set_ok _ _ _ _ _ k10
     rw[bt,bB,n2]at k11
     obtain⟨f2,arr,xs,q1,q2,q3,q4,q5,q6,q7,q8,_⟩:=h.cellsAt hi
     rw[hei]at q1;cases q1
     have harr:=q8 rfl
     have hxl:xs.length=els.length*sz':=by rw[bA q3,dk q4]
     have hle':n+m≤els.length:=by rw[←n2];exact hle
     have hmul:(n+m)*sz'≤els.length*sz':=Nat.mul_le_mul_right _ hle'
     have hadd:(n+m)*sz'=n*sz'+m*sz':=Nat.add_mul ..
     have hsz:arr.size=xs.length:=by rw[←Array.length_toList,harr]
     have hfit:n*inf.size+ns.length≤arr.size:=by rw[i3,n4];omega
     have hr:=run_append_room (P:=P) w t ty Ty' inf ht i1 e.b n cc arr q2 ⟨b,ob,none⟩ m c2 ns (by rw[n4,i3]) (fun j u hu=>by rw[bQ];exact hc j u hu) hone' hcc hfit
     have hfl:(els.take n++(a::r)++els.drop (n+(a::r).length)).flatten=els.flatten.take (n*sz')++(a::r).flatten++els.flatten.drop (n*sz'+((a::r).flatten).length):=by
      have e1:els.flatten=(els.take n).flatten++(els.drop n).flatten:=by rw[←List.flatten_append,List.take_append_drop]
      have e2:els.flatten=(els.take (n+(a::r).length)).flatten++(els.drop (n+(a::r).length)).flatten:=by rw[←List.flatten_append,List.take_append_drop]
      have f1:(els.take n).flatten.length=n*sz':=by
       rw[dk (sz:=sz') (fun l hl=>q4 l (List.mem_of_mem_take hl)),ami,Nat.min_eq_left (by omega)]
      have f2:(els.take (n+(a::r).length)).flatten.length=n*sz'+((a::r).flatten).length:=by
       rw[dk (sz:=sz') (fun l hl=>q4 l (List.mem_of_mem_take hl)),ami,Nat.min_eq_left hle,dk n3,Nat.add_mul]
      rw[List.flatten_append,List.flatten_append]
      congr 1
      ·congr 1
       conv=>rhs;rw[e1]
       exact(List.take_left' f1).symm
      ·conv=>rhs;rw[e2]
       exact(List.drop_left' f2).symm
     refine⟨.sl i 0 (n+m) (.ex cc),M',nx,ρ,w.setRow e.b (arr.toList.take (n*inf.size)++ns++arr.toList.drop (n*inf.size+ns.length)).toArray,.slice (some ⟨e.b,0,none⟩) (n+m) cc,Ren.Le.refl _,h.turn (o':=.blk false Ty' sz' (els.take n++(a::r)++els.drop (n+(a::r).length))) (ob':=.cells (arr.toList.take (n*inf.size)++ns++arr.toList.drop (n*inf.size+ns.length)).toArray Ty' (0,0)) hi hei rfl rfl rfl (fun b' _ hb=>setRow_other w e.b b' _ hb) (setRow_heap w e.b arr _ Ty' _ q2) ⟨?_,q5,_,arr.toList.take (n*inf.size)++ns++arr.toList.drop (n*inf.size+ns.length),rfl,?_,?_⟩ s1 s2,k11,by simp only[den,hei,cw],hr⟩
     ·intro l hl
      simp only[amh]at hl
      rcases hl with(hl|hl)|hl
      ·exact q4 l (List.mem_of_mem_take hl)
      ·exact n3 l hl
      ·exact q4 l (List.mem_of_mem_drop hl)
     ·rw[hfl,i3,harr]
      have hnl:=bA n1
      rw[←hnl]
      exact dl (dl (kg _ q3) n1) (iB _ q3)
     ·simp
    have hcc:cc<n+m:=by
     rw[bB,n2]at hcc
     rcases Nat.lt_or_ge cc (n+m) with q|q
     ·exact q
     ·have:Nat.ble (n+m) cc=true:=by rw[Nat.ble_eq];exact q
      have hcc:Nat.ble (n+m) cc=false:=hcc
      rw[this]at hcc;cases hcc
    obtain⟨olds,os,ao1,n',c',k5,o1,o2,o3,o4,o5,o6⟩:=xD h (v:=.sl i o n (.ex cc)) (x:=.slice (some ⟨e.b,o,none⟩) n cc) (by simp only[den,hei,cw]) k4
    injection o2 with o21 o22 o23
    subst o22
    rw[ox]at k5
    obtain⟨M',k6,s1,s2⟩:=T.set_ok _ _ _ _ _ k5
    rw[bt,bt,bB,n2]at k6
    obtain⟨v',w',r1,r2,r3⟩:=run_append_arg_grows (P:=P) w t ty Ty inf z sz bytes ht i1 i2 i3 i5 i4 i6 ⟨e.b,o,none⟩ n cc os o5 (fun j u hu=>by
      rw[bQ]
      have hj:=(List.getElem?_eq_some_iff.1 hu).1
      have hn0:0<n:=by
       rcases Nat.eq_zero_or_pos n with q|q
       ·rw[q,Nat.zero_mul]at o5;omega
       ·exact q
      obtain⟨b1,ob1,q1,q2⟩:=o6 hn0
      rw[←o21]at q1
      cases q1
      exact q2 j u hu) ⟨b,ob,none⟩ m c2 ns n4 (fun j u hu=>by rw[bQ];exact hc j u hu) hcc (by omega) (by omega)
    exact fin (i:=nx) (old:=none) (els:=olds++a::r) (fun b q=>by cases q) r3 r2 (by omega) (.inr (.inr (amj _))) (by rw[List.flatten_append];exact dl o1 n1)
     (fun l hl=>by
      rcases amh.1 hl with q|q
      ·exact o4 l q
      ·exact n3 l q) (by rw[al2,o3,n2]) s1 (fun m' q _=>s2 m' q) (fun q=>absurd rfl q) k6 r1
   |rest k=>
    obtain⟨hk0,k4⟩:=ac k3
    obtain⟨ho0,k5⟩:=ac k4
    have hk0:=al6 hk0
    have ho0:=al6 ho0
    subst hk0;subst ho0
    obtain⟨g,Ty',sz',els,hi,k6⟩:=bE k5
    obtain⟨hg,k7⟩:=ac k6
    subst hg
    obtain⟨hln,k8⟩:=ac k7
    obtain⟨hT,k9⟩:=ac k8
    obtain⟨hS,k10⟩:=ac k9
    have hln:els.length=n:=by rw[←bB];exact al6 hln
    have hT:=al6 hT
    have hS:=al6 hS
    subst hT;subst hS
    rw[ox]at k10
    obtain⟨M1,k11,s1,s2⟩:=T.set_ok _ _ _ _ _ k10
    obtain⟨M',k12,s3,s4⟩:=T.set_ok _ _ _ _ _ k11
    rw[bt,bt,bB,n2]at k12
    obtain⟨f2,arr,xs,q1,q2,q3,q4,q5,q6,q7,_,q9⟩:=h.cellsAt hi
    rw[hei]at q1;cases q1
    obtain⟨p1,p2,p3⟩:=q9 rfl
    have hxl:xs.length=n*sz':=by rw[bA q3,dk q4,hln]
    obtain⟨v',w',r1,r2,r3,_,r5⟩:=run_append_own_at (P:=P) w 0 t ty Ty' inf z sz' bytes ht i1 i2 i3 i5 i4 i6 (.slice (some ⟨e.b,0,none⟩) n (cw e (.rest 0))) n xs
     ⟨hxl,.inr ⟨e.b,e.cap,arr,by simp[cw],Nat.zero_le _,q2,by omega,p3,p1,by rw[←hxl];exact q7⟩⟩ ⟨b,ob,none⟩ m c2 ns n4 (fun j u hu=>by rw[bQ];exact hc j u hu) hone' (by omega) (by omega) (Nat.zero_le _)
    have hinx:i≠nx:=fun q=>by rw[q,h0]at hei;cases hei
    exact fin (i:=i) (old:=some e.b) (els:=els++a::r) (fun b q=>⟨e,_,hi,hei,amp q,rfl⟩) r3 r2 (by omega) (r5.imp id .inl) (by rw[List.flatten_append];exact dl q3 n1)
     (fun l hl=>by
      rcases amh.1 hl with q|q
      ·exact q4 l q
      ·exact n3 l q) (by rw[al2,hln,n2]) s3 (fun m' q1 q2=>by rw[s4 m' q1,s2 m' q2]) (fun _=>by rw[s4 i hinx,s1]) k12 r1
end
inductive ET
 |int|bool|str
 |st (fs:List (Nat×Nat×Bool×ET))
 |ar (offs:List Nat) (n:Nat) (agg:Bool) (e:ET)
noncomputable def eW (agg:Bool) (off n:Nat) (cs:List AV) (K:AV→Bool):Bool:=aM agg (tak (ou cs off) n fun l=>K (.agg l)) (bF (bS cs off) K)
noncomputable def QU (eq:ET→AV→AV→(Bool→Bool)→Bool) (cs ds:List AV) (fs:List (Nat×Nat×Bool×ET)) (K:Bool→Bool):Bool:=
 List.rec (K true) (fun f _ ih=>eW f.2.2.1 f.1 f.2.1 cs fun u=>eW f.2.2.1 f.1 f.2.1 ds fun v=>eq f.2.2.2 u v fun b=>aM b ih (K false)) fs
noncomputable def QT (eq:ET→AV→AV→(Bool→Bool)→Bool) (cs ds:List AV) (n:Nat) (agg:Bool) (e:ET) (offs:List Nat) (K:Bool→Bool):Bool:=
 List.rec (K true) (fun o _ ih=>eW agg o n cs fun u=>eW agg o n ds fun v=>eq e u v fun b=>aM b ih (K false)) offs
noncomputable def eqZ (u v:AV) (K:Bool→Bool):Bool:=aM (Bool.or (dx u) (dx v)) (iE u fun k a=>iE v fun k2 b=>ae (Nat.beq k k2) (aM (aq (a=b)) (K true) (K false))) (fD u fun k a=>fD v fun k2 b=>ae (Nat.beq k k2) (fB (mn a b) K))
noncomputable def agN (u v:AV) (K:Bool→Bool):Bool:=Jn u fun a=>Jn v fun b=>fB (Bool.rec (Bool.not b) b a) K
noncomputable def agL (u v:AV) (K:Bool→Bool):Bool:=aM (Bool.or (dx u) (dx v)) (qT u fun l=>qT v fun m=>aM (aq (l=m)) (K true) (K false)) (jh u fun l=>jh v fun m=>ae (oC l) (ae (oC m) (fB (yL l m) K)))
theorem Mo {E:Env} {ρ:Ren} {u v:AV} {x y:Value} {K:Bool→Bool} (hx:den E ρ u=some x) (hy:den E ρ v=some y) (h:eqZ u v K=true):∃k a b,x= .int (ca k) a∧y= .int (ca k) b∧K (decide (a=b))=true:=by
 rcases aL h with⟨_,g⟩|⟨_,g⟩
 ·obtain⟨k,a,rfl,g1⟩:=fA hx g
  obtain⟨k2,b,rfl,g2⟩:=fA hy g1
  obtain⟨g3,g4⟩:=ac g2
  have g3:=al6 g3
  subst g3
  refine⟨k,a,b,rfl,rfl,?_⟩
  rcases eG g4 with⟨q,g⟩|⟨q,g⟩
  ·rw[decide_eq_true q];exact g
  ·rw[decide_eq_false q];exact g
 ·obtain⟨k,a,b,rfl,rfl,g5⟩:=iK (f:=fun _ a b=>fB (mn a b) K) g
  rw[nm,mj]at g5
  cases hx;cases hy
  exact⟨k,a,b,rfl,rfl,g5⟩
theorem Gb {E:Env} {ρ:Ren} {u v:AV} {x y:Value} {K:Bool→Bool} (hx:den E ρ u=some x) (hy:den E ρ v=some y) (h:agN u v K=true):∃a b:Bool,x= .bool a∧y= .bool b∧K (Bool.rec (Bool.not b) b a)=true:=by
 obtain⟨a,rfl,g1⟩:=xG hx h
 obtain⟨b,rfl,g2⟩:=xG hy g1
 rw[nm]at g2
 exact⟨a,b,rfl,rfl,g2⟩
theorem Ga {E:Env} {ρ:Ren} {u v:AV} {x y:Value} {K:Bool→Bool} (hx:den E ρ u=some x) (hy:den E ρ v=some y) (h:agL u v K=true):∃l m:List UInt8,x=S l∧y=S m∧K (decide (l=m))=true:=by
 rcases aL h with⟨_,g⟩|⟨_,g⟩
 ·obtain⟨l,rfl,g1⟩:=gW hx g
  obtain⟨m,rfl,g2⟩:=gW hy g1
  refine⟨l,m,rfl,rfl,?_⟩
  rcases eG g2 with⟨q,g⟩|⟨q,g⟩
  ·rw[decide_eq_true q];exact g
  ·rw[decide_eq_false q];exact g
 ·obtain⟨l,rfl,g1⟩:=fg g
  obtain⟨m,rfl,g2⟩:=fg g1
  obtain⟨hl,g3⟩:=ac g2
  obtain⟨hm,g4⟩:=ac g3
  rw[sR]at hl hm
  rw[nm,ot]at g4
  cases hx;cases hy
  refine⟨_,_,rfl,rfl,?_⟩
  rw[show decide (l.map UInt8.ofNat=m.map UInt8.ofNat)=decide (l=m) from by rw[Bool.eq_iff_iff];simp[SW hl hm]]
  exact g4
noncomputable def kc:Nat→ET→AV→AV→(Bool→Bool)→Bool:=
 Nat.rec (fun _ _ _ _=>false) (fun _ ih et u v K=>ET.casesOn et
  (eqZ u v K)
  (agN u v K)
  (agL u v K)
  (fun fs=>asAgg u fun cs=>asAgg v fun ds=>QU ih cs ds fs K)
  (fun offs n agg e=>asAgg u fun cs=>asAgg v fun ds=>QT ih cs ds n agg e offs K))
def dK (chk:ET→TypeId→Bool) (P:Program):List Field→List (Nat×Nat×Bool×ET)→Bool
 |[],[]=>true
 |f::fs,g::gs=>f.name != "_" &&decide (f.offset=g.1)&&decide (bH P f.type=some g.2.1)&&decide (fG P f.type=some g.2.2.1)&&chk g.2.2.2 f.type&&dK chk P fs gs
 |_,_=>false
def cn (P:Program):Nat→ET→TypeId→Bool
 |0,_,_=>false
 |d+1,et,t=>match et,P.underlying t with
  |.int,some (.int _)=>true
  |.bool,some .bool=>true
  |.str,some .string=>true
  |.st gs,some (.struct fs)=> !P.stoodInHeld t&&dK (cn P d) P fs.toList gs
  |.ar offs n agg e,some (.array len el)=>decide (bH P el=some n)&&decide (fG P el=some agg)&&decide (offs=(List.range len).map (· *n))&&cn P d e el
  |_,_=>false
section
variable {P:Program} {E:Env} {ρ:Ren}
theorem jq {agg:Bool} {off n:Nat} {cs:List AV} {K:AV→Bool} {xs:List Value} (hd:ay E ρ cs=some xs) (hk:eW agg off n cs K=true) {t:TypeId} (hag:fG P t=some agg) (hs:bH P t=some n):
  ∃u z,den E ρ u=some z∧K u=true∧∀w,(part t xs.toArray off).run P w= .ok z w:=wk hd hk hag hs
def Sm (P:Program) (d:Nat) (xs ys:List Value):List (TypeId×Nat)→Bool→Prop
 |[],b=>b=true
 |(t,o)::l,b=>∃zu zv,(∀w,(part t xs.toArray o).run P w= .ok zu w)∧(∀w,(part t ys.toArray o).run P w= .ok zv w)∧
   (((∀(D:Nat) (w:World),d≤D→(Op.equalIn D t zu zv).run P w= .ok true w)∧Sm P d xs ys l b)∨((∀(D:Nat) (w:World),d≤D→(Op.equalIn D t zu zv).run P w= .ok false w)∧b=false))
theorem qK:∀(d:Nat) {et:ET} {u v:AV} {K:Bool→Bool} {x y:Value} {t:TypeId},cn P d et t=true→den E ρ u=some x→den E ρ v=some y→kc d et u v K=true→
  ∃b,K b=true∧(∀(D:Nat) (w:World),d≤D→(Op.equalIn D t x y).run P w= .ok b w)∧∀dd,P.underlying t=some dd→(Instr.sameNow dd x y=some b∨Instr.sameNow dd x y=none)
 |0,et,u,v,K,x,y,t,hc,_,_,_=>by simp[cn]at hc
 |d+1,et,u,v,K,x,y,t,hc,hx,hy,hk=>by
  unfold cn at hc
  split at hc
  ·rename_i kk hu
   obtain⟨k,a,b,rfl,rfl,g⟩:=Mo hx hy hk
   refine⟨_,g,fun D w hD=> ?_,fun dd hdd=> ?_⟩
   ·obtain⟨D,rfl⟩:∃D',D=D'+1:=⟨D - 1,by omega⟩
    simp[Op.equalIn,run_underlying hu,iD]
   ·rw[hu]at hdd;cases hdd
    exact .inl (by simp[Instr.sameNow,iD])
  ·rename_i hu
   obtain⟨a,b,rfl,rfl,g2⟩:=Gb hx hy hk
   refine⟨_,g2,fun D w hD=> ?_,fun dd hdd=> ?_⟩
   ·obtain⟨D,rfl⟩:∃D',D=D'+1:=⟨D - 1,by omega⟩
    simp only[Op.equalIn,amf,run_underlying hu,ame,Sem.run_pure]
    cases a<;>cases b<;>rfl
   ·rw[hu]at hdd;cases hdd
    exact .inl (by cases a<;>cases b<;>rfl)
  ·rename_i hu
   obtain⟨l,m,rfl,rfl,g4⟩:=Ga hx hy hk
   have hb:((⟨l.toArray⟩:ByteArray)==⟨m.toArray⟩)=decide (l=m):=by
    rw[beq_toListBytes,iq,iq,Bool.eq_iff_iff]
    simp
   refine⟨_,g4,fun D w hD=> ?_,fun dd hdd=> ?_⟩
   ·obtain⟨D,rfl⟩:∃D',D=D'+1:=⟨D - 1,by omega⟩
    simp only[Op.equalIn,amf,run_underlying hu,ame,Sem.run_pure]
    rw[hb]
   ·rw[hu]at hdd;cases hdd
    exact .inl (by simp only[Instr.sameNow,hb])
  ·rename_i gs fs hu
   obtain⟨cs,rfl,g1⟩:=dz hk
   obtain⟨ds,rfl,g2⟩:=dz g1
   simp only[den]at hx hy
   split at hx
   case h_2=>cases hx
   rename_i xs hxs
   split at hy
   case h_2=>cases hy
   rename_i ys hys
   cases hx;cases hy
   simp only[aml,Bool.not_eq_true']at hc
   obtain⟨hst,hf⟩:=hc
   have key:∀(l:List Field) (gs:List (Nat×Nat×Bool×ET)),dK (cn P d) P l gs=true→QU (kc d) cs ds gs K=true→∃b,K b=true∧Sm P d xs ys (l.map fun f=>(f.type,f.offset)) b∧∀f∈l,f.name≠ "_" :=by
    intro l
    induction l with
    |nil=>
     intro gs hf hk
     cases gs with
     |nil=>exact⟨true,hk,rfl,by simp⟩
     |cons g gs=>simp[dK]at hf
    |cons f l ihl=>
     intro gs hf hk
     cases gs with
     |nil=>simp[dK]at hf
     |cons g gs=>
      simp only[dK,aml,decide_eq_true_eq]at hf
      obtain⟨⟨⟨⟨⟨f1,f2⟩,f3⟩,f4⟩,f5⟩,f6⟩:=hf
      have f1:f.name≠ "_" :=by simpa using f1
      have hk':eW g.2.2.1 g.1 g.2.1 cs (fun u=>eW g.2.2.1 g.1 g.2.1 ds fun v=>kc d g.2.2.2 u v fun b=>aM b (QU (kc d) cs ds gs K) (K false))=true:=hk
      obtain⟨u,zu,u1,u2,u3⟩:=jq hxs hk' f4 f3
      obtain⟨v,zv,v1,v2,v3⟩:=jq hys u2 f4 f3
      obtain⟨b,b1,b2,_⟩:=qK d f5 u1 v1 v2
      rw[←f2]at u3 v3
      rcases aL b1 with⟨rfl,b3⟩|⟨rfl,b3⟩
      ·obtain⟨c,c1,c2,c3⟩:=ihl gs f6 b3
       exact⟨c,c1,⟨zu,zv,u3,v3,.inl ⟨b2,c2⟩⟩,fun g hg=>by rcases List.mem_cons.1 hg with rfl|hg<;>first|exact f1|exact c3 g hg⟩
      ·have hall:∀(l:List Field) (gs:List (Nat×Nat×Bool×ET)),dK (cn P d) P l gs=true→∀f∈l,f.name≠ "_" :=by
        intro l
        induction l with
        |nil=>intro gs _ f hf;simp at hf
        |cons f l ih=>
         intro gs hg f' hf'
         cases gs with
         |nil=>simp[dK]at hg
         |cons g gs=>
          simp only[dK,aml,decide_eq_true_eq]at hg
          rcases List.mem_cons.1 hf' with rfl|hf'
          ·simpa using hg.1.1.1.1.1
          ·exact ih gs hg.2 f' hf'
       exact⟨false,b3,⟨zu,zv,u3,v3,.inr ⟨b2,rfl⟩⟩,fun g hg=>by
        rcases List.mem_cons.1 hg with rfl|hg
        ·exact f1
        ·exact hall l gs f6 g hg⟩
   obtain⟨b,b1,b2,b3⟩:=key fs.toList gs hf g2
   refine⟨b,b1,fun D w hD=> ?_,fun dd hdd=>by rw[hu]at hdd;cases hdd;exact .inr rfl⟩
   obtain⟨D,rfl⟩:∃D',D=D'+1:=⟨D - 1,by omega⟩
   simp only[Op.equalIn,amf,run_underlying hu,ame,run_program,hst,Bool.false_eq_true,if_false]
   rw[←Array.forIn_toList]
   generalize fs.toList=l at b2 b3
   clear hu hf key
   induction l with
   |nil=>
    have:b=true:=b2
    subst this
    simp
   |cons f l ihl=>
    obtain⟨zu,zv,u3,v3,hor⟩:=b2
    have hn:=b3 f (by simp)
    simp only[List.forIn_cons,amf]
    rcases hor with⟨e1,e2⟩|⟨e1,rfl⟩
    ·have:=ihl e2 fun g hg=>b3 g (by simp[hg])
     simp[hn,u3,v3,e1 D _ (by omega)]at this ⊢
     exact this
    ·simp[hn,u3,v3,e1 D _ (by omega)]
  ·rename_i offs n agg e len el hu
   obtain⟨cs,rfl,g1⟩:=dz hk
   obtain⟨ds,rfl,g2⟩:=dz g1
   simp only[den]at hx hy
   split at hx
   case h_2=>cases hx
   rename_i xs hxs
   split at hy
   case h_2=>cases hy
   rename_i ys hys
   cases hx;cases hy
   simp only[aml,decide_eq_true_eq]at hc
   obtain⟨⟨⟨c1,c2⟩,c3⟩,c4⟩:=hc
   have key:∀(l:List Nat),QT (kc d) cs ds n agg e l K=true→∃b,K b=true∧Sm P d xs ys (l.map fun o=>(el,o)) b:=by
    intro l
    induction l with
    |nil=>intro hk;exact⟨true,hk,rfl⟩
    |cons o l ihl=>
     intro hk
     have hk':eW agg o n cs (fun u=>eW agg o n ds fun v=>kc d e u v fun b=>aM b (QT (kc d) cs ds n agg e l K) (K false))=true:=hk
     obtain⟨u,zu,u1,u2,u3⟩:=jq hxs hk' c2 c1
     obtain⟨v,zv,v1,v2,v3⟩:=jq hys u2 c2 c1
     obtain⟨b,b1,b2,_⟩:=qK d c4 u1 v1 v2
     rcases aL b1 with⟨rfl,b3⟩|⟨rfl,b3⟩
     ·obtain⟨c,e1,e2⟩:=ihl b3
      exact⟨c,e1,zu,zv,u3,v3,.inl ⟨b2,e2⟩⟩
     ·exact⟨false,b3,zu,zv,u3,v3,.inr ⟨b2,rfl⟩⟩
   obtain⟨b,b1,b2⟩:=key offs g2
   refine⟨b,b1,fun D w hD=> ?_,fun dd hdd=>by rw[hu]at hdd;cases hdd;exact .inr rfl⟩
   obtain⟨D,rfl⟩:∃D',D=D'+1:=⟨D - 1,by omega⟩
   simp only[Op.equalIn,amf,run_underlying hu,ame,Go.Eng.run_sizeOf c1]
   rw[Std.Legacy.Range.forIn_eq_forIn_range']
   simp only[Std.Legacy.Range.size,Nat.sub_zero,Nat.add_sub_cancel,Nat.div_one]
   rw[c3,List.map_map,List.range_eq_range']at b2
   generalize List.range' 0 len=l at b2 ⊢
   clear hu key c3 g2
   induction l with
   |nil=>
    have:b=true:=b2
    subst this
    simp
   |cons i l ihl=>
    obtain⟨zu,zv,u3,v3,hor⟩:=b2
    simp only[List.forIn_cons,amf]
    rcases hor with⟨e1,e2⟩|⟨e1,rfl⟩
    ·have:=ihl e2
     simp[u3,v3,e1 D _ (by omega)]at this ⊢
     exact this
    ·simp[u3,v3,e1 D _ (by omega)]
  ·cases hc
end
end Go.Sy
