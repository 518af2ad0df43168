/- Definitions and lemmas of the proof, without a condition of their own. -/
import Derived.WalkKit
import Derived.Orders
import Derived.Maps.AppendAt
import Derived.Lib.ItoaMem
import Derived.Lib.ItoaLen
import Derived.Lib.LaidTab
import Derived.Sort.Grow
import Derived.Lib.AppendStr
import Derived.Lib.UnsafeStr
import Derived.Lib.Builder
import Derived.MapKept
import Derived.Laws.StructEq
import Derived.Lib.Join
import Derived.Lib.JoinLaws
import Derived.Deep.Slices
import Derived.OpenShut
import Derived.SizedLaws
import Derived.Laws.MakeOwn
import Derived.Laws.Slices
import Derived.ArgAppend
open Bool renaming and_eq_true→acT
open Go.Result renaming andThen_ok→acM
open Go.Sem renaming run_bind→acN
open List renaming append_assoc→acJ,cons_append→acI,eq_nil_of_length_eq_zero→acW,flatten_cons→acG,getElem?_map→acV,getElem?_take_of_lt→acS,length_append→acA,length_cons→acB,length_take→acQ,map_append→acO,map_cons→acH,mem_append→acP,mem_of_getElem?→acF,nil_append→acK
open Nat renaming blt_eq→acZ,eq_of_beq_eq_true→acE,le_refl→acR
open Option renaming map_eq_some_iff→acL
open Option.some renaming inj→acY,injEq→acU
open UInt8 renaming ofNat→acX
namespace Go.Eng
open Go Go.RowKit
abbrev lh:=Nat→Option Obj
structure GS where
 M:lh
 os:Os
 tape:Nat→Question→Nat
 output:Array (Nat×ByteArray)
def GS.of (w:World):GS:=⟨fun b=>w.heap[b]?,w.os,w.tape,w.output⟩
structure GS.Le (G G':GS):Prop where
 os:G'.os=G.os
 tape:G'.tape=G.tape
 output:G'.output=G.output
 mem:∀b o,G.M b=some o→G'.M b=some o
theorem GS.Le.refl (G:GS):G.Le G:=⟨rfl,rfl,rfl,fun _ _ h=>h⟩
theorem GS.Le.trans {a b c:GS} (h:a.Le b) (k:b.Le c):a.Le c:=
 ⟨k.os.trans h.os,k.tape.trans h.tape,k.output.trans h.output,fun x o e=>k.mem x o (h.mem x o e)⟩
abbrev aA:=List (Nat×Obj)
structure Holds (G:GS) (w:World) (H:List aA):Prop where
 os:w.os=G.os
 tape:w.tape=G.tape
 output:w.output=G.output
 mem:∀b o,G.M b=some o→w.heap[b]?=some o
 own:∀p∈H.flatten,w.heap[p.1]?=some p.2
 nodup:(H.flatten.map (·.1)).Nodup
 apart:∀p∈H.flatten,G.M p.1=none
theorem bu {w:World} {b:Nat} {o:Obj} (h:w.heap[b]?=some o):b<w.heap.size:=by
 rcases Nat.lt_or_ge b w.heap.size with hlt|hge
 ·exact hlt
 ·rw[Array.getElem?_eq_none hge]at h;cases h
theorem Holds.start (w:World):Holds (GS.of w) w []:=
 ⟨rfl,rfl,rfl,fun _ _ h=>h,fun _ h=>by simp at h,by simp,fun _ h=>by simp at h⟩
theorem Holds.below {W w:World} {G:GS} {H:List aA} (hg:(GS.of W).Le G) (h:Holds G w H):Below W.heap.size W w:=by
 have hb:∀k,k<W.heap.size→w.heap[k]?=W.heap[k]?:=by
  intro k hk
  have e:W.heap[k]?=some W.heap[k]:=Array.getElem?_eq_getElem hk
  rw[e]
  exact h.mem k _ (hg.mem k _ e)
 refine⟨h.os.trans hg.os,h.tape.trans hg.tape,h.output.trans hg.output,?_,hb⟩
 rcases Nat.eq_zero_or_pos W.heap.size with h0|h0
 ·omega
 ·have hk:=hb (W.heap.size - 1) (by omega)
  rw[Array.getElem?_eq_getElem (show W.heap.size - 1<W.heap.size by omega)]at hk
  have:=bu hk
  omega
theorem Holds.drew {G:GS} {w:World} {H:List aA} (h:Holds G w H):Holds G w.drew H:=
 ⟨h.os,h.tape,h.output,h.mem,h.own,h.nodup,h.apart⟩
theorem Holds.drawn {G:GS} {w:World} {H:List aA} (h:Holds G w H):Holds G {w with drawn:=w.drawn+1} H:=
 ⟨h.os,h.tape,h.output,h.mem,h.own,h.nodup,h.apart⟩
theorem Holds.perm {G:GS} {w:World} {H H':List aA} (h:Holds G w H) (p:H'.flatten.Perm H.flatten):Holds G w H':=
 ⟨h.os,h.tape,h.output,h.mem,fun x hx=>h.own x (p.mem_iff.1 hx),((p.map (·.1)).nodup_iff).2 h.nodup,fun x hx=>h.apart x (p.mem_iff.1 hx)⟩
theorem Dd {α:Type}:∀(H:List α) (i:Nat) {c:α},H[i]?=some c→(c::H.eraseIdx i).Perm H
 |[],i,c,h=>by simp at h
 |x::H,0,c,h=>by
  simp only[List.getElem?_cons_zero,acU]at h
  subst h
  simp
 |x::H,i+1,c,h=>by
  simp only[List.getElem?_cons_succ]at h
  simp only[List.eraseIdx_cons_succ]
  exact(List.Perm.swap x c _).trans ((Dd H i h).cons x)
theorem Holds.front {G:GS} {w:World} {H:List aA} (h:Holds G w H) (i:Nat) {c:aA} (hc:H[i]?=some c):Holds G w (c::H.eraseIdx i):=by
 refine h.perm ?_
 have hp:(c::H.eraseIdx i).Perm H:=by
  exact Dd H i hc
 exact hp.flatten
theorem Holds.drop {G:GS} {w:World} {c:aA} {H:List aA} (h:Holds G w (c::H)):Holds G w H:=by
 refine⟨h.os,h.tape,h.output,h.mem,fun x hx=>h.own x (by simp only[acG,acP];exact .inr hx),?_,fun x hx=>h.apart x (by simp only[acG,acP];exact .inr hx)⟩
 have:=h.nodup
 simp only[acG,acO]at this
 exact(List.nodup_append.1 this).2.1
theorem Holds.alloc {G:GS} {w:World} {H:List aA} (h:Holds G w H) (o:Obj):Holds G (w.alloc o) ([(w.heap.size,o)]::H):=by
 have hlt:∀p∈H.flatten,p.1<w.heap.size:=fun p hp=>bu (h.own p hp)
 refine⟨h.os,h.tape,h.output,fun b o' hb=> ?_,fun p hp=> ?_,?_,fun p hp=> ?_⟩
 ·have:=h.mem b o' hb
  rw[Below.heap_alloc _ _ _ (bu this)];exact this
 ·simp only[acG,acI,acK,List.mem_cons]at hp
  rcases hp with rfl|hp
  ·exact heap_alloc_new w o
  ·rw[Below.heap_alloc _ _ _ (hlt p hp)];exact h.own p hp
 ·simp only[acG,acI,acK,acH,List.nodup_cons]
  refine⟨fun hm=> ?_,h.nodup⟩
  obtain⟨p,hp,e⟩:=List.mem_map.1 hm
  have:=hlt p hp
  omega
 ·simp only[acG,acI,acK,List.mem_cons]at hp
  rcases hp with rfl|hp
  ·rcases hM:G.M w.heap.size with _|o'
   ·rfl
   ·have:=bu (h.mem _ _ hM);omega
  ·exact h.apart p hp
theorem Holds.turn {G:GS} {w w':World} {c c':aA} {H:List aA} (h:Holds G w (c::H)) (hos:w'.os=w.os) (ht:w'.tape=w.tape) (ho:w'.output=w.output)
  (hk:c'.map (·.1)=c.map (·.1)) (hel:∀b,b<w.heap.size→b∉c.map (·.1)→w'.heap[b]?=w.heap[b]?) (hc:∀p∈c',w'.heap[p.1]?=some p.2):Holds G w' (c'::H):=by
 have hn:=h.nodup
 simp only[acG,acO]at hn
 have hd:=(List.nodup_append.1 hn).2.2
 refine⟨hos.trans h.os,ht.trans h.tape,ho.trans h.output,fun b o hb=> ?_,fun p hp=> ?_,?_,fun p hp=> ?_⟩
 ·have hw:=h.mem b o hb
  rw[hel b (bu hw)];exact hw
  intro hm
  obtain⟨p,hp,rfl⟩:=List.mem_map.1 hm
  have:=h.apart p (by simp only[acG,acP];exact .inl hp)
  rw[this]at hb;cases hb
 ·simp only[acG,acP]at hp
  rcases hp with hp|hp
  ·exact hc p hp
  ·have hw:=h.own p (by simp only[acG,acP];exact .inr hp)
   rw[hel p.1 (bu hw)];exact hw
   intro hm
   exact hd _ hm _ (List.mem_map_of_mem hp) rfl
 ·simp only[acG,acO,hk];exact hn
 ·simp only[acG,acP]at hp
  rcases hp with hp|hp
  ·have:p.1∈c.map (·.1):=hk▸List.mem_map_of_mem hp
   obtain⟨q,hq,e⟩:=List.mem_map.1 this
   rw[←e];exact h.apart q (by simp only[acG,acP];exact .inl hq)
  ·exact h.apart p (by simp only[acG,acP];exact .inr hp)
def GS.add (G:GS) (c:aA):GS:={G with M:=fun b=>match G.M b with|some o=>some o|none=>(c.find? (·.1==b)).map (·.2)}
theorem pE:∀(c:aA),(c.map (·.1)).Nodup→∀p∈c,c.find? (·.1==p.1)=some p
 |[],_,_,h=>by simp at h
 |q::c,hn,p,h=>by
  simp only[acH,List.nodup_cons]at hn
  simp only[List.find?_cons]
  rcases List.mem_cons.1 h with rfl|h
  ·simp
  ·have:(q.1==p.1)=false:=by
    rw[beq_eq_false_iff_ne]
    intro e
    exact hn.1 (e▸List.mem_map_of_mem h)
   rw[this]
   exact pE c hn.2 p h
theorem Holds.toG {G:GS} {w:World} {c:aA} {H:List aA} (h:Holds G w (c::H)):G.Le (G.add c)∧Holds (G.add c) w H∧∀p∈c,(G.add c).M p.1=some p.2:=by
 have hn:=h.nodup
 simp only[acG,acO]at hn
 obtain⟨hn1,_,hd⟩:=List.nodup_append.1 hn
 have hM:∀p∈c,(G.add c).M p.1=some p.2:=by
  intro p hp
  have:=h.apart p (by simp only[acG,acP];exact .inl hp)
  simp only[GS.add,this,pE c hn1 p hp,Option.map_some]
 refine⟨⟨rfl,rfl,rfl,fun b o hb=>by simp[GS.add,hb]⟩,⟨h.os,h.tape,h.output,fun b o hb=> ?_,h.drop.own,h.drop.nodup,fun p hp=> ?_⟩,hM⟩
 ·rcases e:G.M b with _|o'
  ·simp only[GS.add,e,acL]at hb
   obtain⟨p,hf,rfl⟩:=hb
   have hm:=List.mem_of_find?_eq_some hf
   have he:p.1=b:=by simpa using List.find?_some hf
   rw[←he]
   exact h.own p (by simp only[acG,acP];exact .inl hm)
  ·have:o'=o:=by simpa[GS.add,e] using hb
   subst this
   exact h.mem b _ e
 ·have h1:=h.drop.apart p hp
  simp only[GS.add,h1,Option.map_eq_none_iff,List.find?_eq_none]
  intro q hq
  simp only[beq_iff_eq]
  intro e
  exact hd _ (List.mem_map_of_mem hq) _ (List.mem_map_of_mem hp) e
def lk:List (Nat×Value)→Nat→Option Value
 |[],_=>none
 |(k,v)::r,t=>bif Nat.beq t k then some v else lk r t
structure SF (N:Nat) (a:Act) (L:List (Nat×Value)):Prop where
 size:a.tmps.size=N
 defers:a.defers=[]
 at_:∀t v,lk L t=some v→a.tmps.getD t undef=v
def wt (L:List (Nat×Value)):Operand→Option Value
 |.tmp t=>lk L t
 |.const v=>some v
 |.global g=>some (.pointer (some ⟨g,0,none⟩))
 |.func f=>some (.func (.func f) #[] #[])
theorem SF.ev {N:Nat} {a:Act} {L:List (Nat×Value)} (s:SF N a L) {x:Operand} {v:Value} (h:wt L x=some v):a.eval x=v:=by
 cases x with
 |tmp t=>exact s.at_ t v h
 |const c=>simpa[wt,Act.eval] using h
 |global g=>simpa[wt,Act.eval] using h
 |func f=>simpa[wt,Act.eval] using h
theorem SF.put {N:Nat} {a:Act} {L:List (Nat×Value)} (s:SF N a L) (d:Nat) (hd:Nat.blt d N=true) (v:Value):SF N (a.put (some d) v) ((d,v)::L):=by
 have hd':d<N:=by simpa[acZ] using hd
 refine⟨by simpa[Act.put] using s.size,s.defers,fun t u h=> ?_⟩
 simp only[Act.put]
 by_cases e:t=d
 ·subst e
  simp only[lk,Nat.beq_refl,cond_true,acU]at h
  subst h
  have:=s.size
  simp[Array.getD,this,hd']
 ·have hb:Nat.beq t d=false:=by
   cases hb:Nat.beq t d with
   |false=>rfl
   |true=>exact absurd (acE hb) e
  simp only[lk,hb,cond_false]at h
  rw[←s.at_ t u h]
  simp only[Array.getD,Array.size_setIfInBounds]
  split
  ·simp only[Array.getInternal_eq_getElem]
   rw[Array.getElem_setIfInBounds_ne]
   exact fun e'=>e e'.symm
  ·rfl
theorem SF.put0 {N:Nat} {a:Act} {L:List (Nat×Value)} (s:SF N a L) (v:Value):SF N (a.put none v) L:=s
theorem SF.sub {N:Nat} {a:Act} {L L':List (Nat×Value)} (s:SF N a L) (h:∀p∈L',lk L p.1=some p.2):SF N a L':=by
 refine⟨s.size,s.defers,fun t v hv=>s.at_ t v ?_⟩
 have key:∀K:List (Nat×Value),lk K t=some v→∃p∈K,p.1=t∧p.2=v:=by
  intro K
  induction K with
  |nil=>intro e;simp[lk]at e
  |cons p K ih=>
   intro e
   obtain⟨k,u⟩:=p
   cases hb:Nat.beq t k with
   |true=>
    simp only[lk,hb,cond_true,acU]at e
    exact⟨(k,u),by simp,(acE hb).symm,e⟩
   |false=>
    simp only[lk,hb,cond_false]at e
    obtain⟨q,hq,e1,e2⟩:=ih e
    exact⟨q,by simp[hq],e1,e2⟩
 obtain⟨p,hp,rfl,rfl⟩:=key L' hv
 exact h p hp
theorem MT {p:(Nat×Value)→Prop}:∀x∈([]:List (Nat×Value)),p x:=fun _ h=>by simp at h
theorem all_cons {p:(Nat×Value)→Prop} {x:Nat×Value} {l:List (Nat×Value)} (h:p x) (hl:∀y∈l,p y):∀y∈x::l,p y:=by
 intro y hy
 rcases List.mem_cons.1 hy with rfl|hy
 ·exact h
 ·exact hl y hy
theorem SF.enter (N:Nat) (args:List Value) (h:args.length≤N):
  SF N {tmps:=args.toArray++Array.replicate (N - args.length) undef,defers:=[]} (args.zipIdx.map fun p=>(p.2,p.1)):=by
 refine⟨by simp;omega,rfl,?_⟩
 intro t v hv
 have key:∀(l:List Value) (k:Nat),lk ((l.zipIdx k).map fun p=>(p.2,p.1)) t=some v→k≤t∧l[t - k]?=some v:=by
  intro l
  induction l with
  |nil=>intro k e;simp[lk]at e
  |cons x l ih=>
   intro k e
   simp only[List.zipIdx_cons,acH,lk]at e
   cases hb:Nat.beq t k with
   |true=>
    have:=acE hb
    subst this
    simp only[hb,cond_true,acU]at e
    subst e
    simp
   |false=>
    simp only[hb,cond_false]at e
    obtain⟨h1,h2⟩:=ih (k+1) e
    refine⟨by omega,?_⟩
    rw[show t - k=(t - (k+1))+1 by omega,List.getElem?_cons_succ]
    exact h2
 obtain⟨_,h2⟩:=key args 0 hv
 simp only[Nat.sub_zero]at h2
 obtain⟨hlt,rfl⟩:=List.getElem?_eq_some_iff.1 h2
 simp only[Array.getD,Array.size_append,List.size_toArray,Array.size_replicate]
 rw[dif_pos (by omega)]
 simp[Array.getElem_append,hlt]
section
variable {P:Program} {ops:Array Oper} {Q:Exit→Act→World→Prop} {K:Act→World→Prop} {a:Act} {w:World} {rest:List Oper}
theorem mn (m n:Int):(m==n)=decide (m=n):=rfl
theorem ga {o:Oper} {v:Value} {w':World} (hr:(execOp a.eval o).run P w= .ok (.value v) w') (k:K (a.put o.dst v) w'):o.wp P a w K Q:=by
 unfold Oper.wp;rw[hr];exact k
theorem Qm {o:Oper} {w':World} (hr:(execOp a.eval o).run P w= .ok .skip w') (k:K (a.put o.dst undef) w'):o.wp P a w K Q:=by
 unfold Oper.wp;rw[hr];exact k
theorem El {o:Oper} {f:FuncId} {args:Array Value} {w':World} (hr:(execOp a.eval o).run P w= .ok (.enter f args) w')
  (hc:Calls P f args w' fun e w''=>∃v,e= .returned v∧K (a.put o.dst v) w''):o.wp P a w K Q:=by
 unfold Oper.wp;rw[hr]
 exact hc.mono fun e w'' ⟨v,he,hk⟩=>by subst he;exact hk
theorem wl {o:Oper} (hg:o.guard=none) (h:o.wp P a w (wpList P ops Q rest) Q):wpList P ops Q (o::rest) a w:=by
 unfold wpList
 rw[if_pos (by simp[Region.wanted,hg])]
 exact .inl h
theorem de {N d:Nat} {L:List (Nat×Value)} {v:Value} {w':World} {op:Op} {ty:TypeId} {pos:String} {af:Array Edge} (s:SF N a L) (hd:Nat.blt d N=true)
  (ho:∀K:Act→World→Prop,K (a.put (some d) v) w'→Oper.wp P ⟨some d,op,ty,pos,af,none⟩ a w K Q)
  (k:∀a',SF N a' ((d,v)::L)→wpList P ops Q rest a' w'):wpList P ops Q (⟨some d,op,ty,pos,af,none⟩::rest) a w:=
 wl rfl (ho _ (k _ (s.put d hd v)))
section
variable {dst:Option Tmp} {ty:TypeId} {pos:String} {af:Array Edge} {g:Option (Nat×Bool)}
theorem gN {x:Operand} {v:Value} (hx:a.eval x=v) (k:K (a.put dst v) w):Oper.wp P ⟨dst,.move x,ty,pos,af,g⟩ a w K Q:=
 ga (by simp only[execOp,hx];rfl) k
theorem ku {x:Operand} {v:Value} (hx:a.eval x=v) (k:K (a.put dst v) w):Oper.wp P ⟨dst,.assign x,ty,pos,af,g⟩ a w K Q:=
 ga (by simp only[execOp,hx];rfl) k
theorem Uz {op:BinOp} {t t2:TypeId} {x y:Operand} {u v z:Value} (hx:a.eval x=u) (hy:a.eval y=v)
  (hr:((do eqGuard op t x y u v;binOp op t u v):Sem Value).run P w= .ok z w) (k:K (a.put dst z) w):Oper.wp P ⟨dst,.binOp op t x y t2,ty,pos,af,g⟩ a w K Q:=
 ga (by simp only[execOp,hx,hy,acN]at hr ⊢;rw[hr];rfl) k
section
variable {t t2:TypeId} {x y:Operand} {kd:IntKind} {m n z:Int} {b:Bool}
end
abbrev S (l:List UInt8):Value:=.string ⟨l.toArray⟩
section
variable {t t2:TypeId} {x y:Operand} {l m:List UInt8}
theorem lR (l:List UInt8):ByteArray.toList ⟨l.toArray⟩=l:=by rw[ByteArray.toList_eq]
theorem du (b:Builtin) (args:Array Operand) (ta:Array TypeId) (dst:Option Tmp) (ty:TypeId) (pos:String) (af:Array Edge) (g:Option (Nat×Bool)):
  (execOp a.eval ⟨dst,.call {callee:=.builtin b,args:=args,argTypes:=ta},ty,pos,af,g⟩).run P w=
   (builtin b ta ty (args.map fun|.const _=>true|_=>false) (args.map a.eval)).run P w:=by
 simp only[execOp,resolve,acN,Sem.run_pure,acM,invoke]
 rfl
theorem aax {t:TypeId} (hx:a.eval x=S l) (ht:P.underlying t=some .string) (k:K (a.put dst (.int .i64 l.length)) w):
  Oper.wp P ⟨dst,.call {callee:=.builtin .len,args:= #[x],argTypes:= #[t]},ty,pos,af,g⟩ a w K Q:=by
 refine ga ?_ k
 have h1:ByteArray.size ⟨l.toArray⟩=l.length:=by simp[ByteArray.size]
 rw[du]
 simp[builtin,Builtin.len_,hx,h1,goInt,run_underlying ht]
theorem Uy {t e:TypeId} {ao:Option Addr} {n c:Nat} (hx:a.eval x= .slice ao n c) (ht:P.underlying t=some (.slice e)) (k:K (a.put dst (.int .i64 n)) w):
  Oper.wp P ⟨dst,.call {callee:=.builtin .len,args:= #[x],argTypes:= #[t]},ty,pos,af,g⟩ a w K Q:=by
 refine ga ?_ k
 rw[du]
 simp[builtin,Builtin.len_,hx,goInt,run_underlying ht]
end
def pb (P:Program) (t i:Nat):Option Nat:=
 match P.underlying t with
 |some (.struct fs)=>match fs[i]? with
  |some f=>match P.info? f.type with
   |some inf=>bif Nat.beq inf.size 0 then none else some f.offset
   |none=>none
  |none=>none
 |_=>none
def szOf (P:Program) (t:Nat):Option Nat:=(P.info? t).map (·.size)
def isAg (P:Program) (t:Nat):Option Bool:=match P.underlying t with|some (.struct _)|some (.array ..)=>some true|some _=>some false|none=>none
theorem run_sizeOf {t n:Nat} (h:szOf P t=some n) (w:World):(sizeOf t:Sem Nat).run P w= .ok n w:=by
 unfold szOf at h
 rcases hi:P.info? t with _|i
 ·simp[hi]at h
 ·simp only[hi,Option.map_some,acU]at h
  subst h
  simp[sizeOf,typeInfo,hi]
theorem run_isAgg {t:Nat} {b:Bool} (h:isAg P t=some b) (w:World):(isAgg t:Sem Bool).run P w= .ok b w:=by
 unfold isAg at h
 rcases hu:P.underlying t with _|d
 ·simp[hu]at h
 ·rw[hu]at h
  cases d<;>simp at h<;>subst h<;>simp[isAgg,run_underlying hu]
theorem da (b o n:Nat):Addr.add ⟨b,o,none⟩ n=⟨b,o+n,none⟩:=by
 unfold Addr.add
 split
 ·rename_i h;subst h;rfl
 ·rfl
theorem nr {t i n b o:Nat} {fs:Array Field} {f:Field} (ht:P.underlying t=some (.struct fs)) (hf:fs[i]?=some f) (h:pb P t i=some n):
  (fieldPlace ⟨b,o,none⟩ f:Sem Addr).run P w= .ok ⟨b,o+n,none⟩ w:=by
 unfold pb at h
 simp only[ht,hf]at h
 rcases hi:P.info? f.type with _|inf
 ·simp[hi]at h
 ·simp only[hi]at h
  cases hz:Nat.beq inf.size 0 with
  |true=>simp[hz]at h
  |false=>
   simp only[hz,cond_false,acU]at h
   subst h
   have hne:¬inf.size=0:=fun e=>by rw[e]at hz;simp at hz
   have hs:szOf P f.type=some inf.size:=by simp[szOf,hi]
   simp only[fieldPlace,acN,run_sizeOf hs,acM,if_neg hne,Sem.run_pure,da]
section
variable {x y:Operand}
theorem eD {t i b o n:Nat} (hx:a.eval x= .pointer (some ⟨b,o,none⟩)) (h:pb P t i=some n) (k:K (a.put dst (.pointer (some ⟨b,o+n,none⟩))) w):
  Oper.wp P ⟨dst,.fieldAddr t x i,ty,pos,af,g⟩ a w K Q:=by
 refine ga ?_ k
 have h':=h
 unfold pb at h'
 rcases ht:P.underlying t with _|d
 ·simp[ht]at h'
 rw[ht]at h'
 cases d<;>simp at h'
 rename_i fs
 rcases hf:fs[i]? with _|f
 ·simp[hf]at h'
 simp[execOp,Instr.fieldAt,Instr.sureAddr,hx,run_underlying ht,hf,nr ht hf h]
theorem ot {v:Value} {b o:Nat} (hx:a.eval x= .pointer (some ⟨b,o,none⟩)) (hv:Value.pointer (some ⟨b,o,none⟩)=v) (k:K (a.put dst v) w):Oper.wp P ⟨dst,.nilCheck x,ty,pos,af,g⟩ a w K Q:=by
 subst hv
 exact ga (by simp[execOp,hx]) k
def blk:Option Addr→Nat|some p=>p.block|none=>0
def ni:Option Addr→Nat|some p=>p.off|none=>0
def gR (M:lh) (b o:Nat):Option Value:=match M b with|some (.cells c _ _)=>c[o]?|_=>none
theorem _root_.Go.Eng.Holds.cellM {G:GS} {H:List aA} (h:Holds G w H) {b o:Nat} {v:Value} (hm:gR G.M b o=some v):w.cell? ⟨b,o,none⟩=some v:=by
 unfold gR at hm
 rcases hM:G.M b with _|ob
 ·simp[hM]at hm
 ·have:=h.mem b ob hM
  rw[hM]at hm
  cases ob<;>simp at hm
  simp[World.cell?,this,hm]
theorem _root_.Go.Eng.Holds.cellO {G:GS} {H:List aA} (h:Holds G w H) {b o:Nat} {c:Array Value} {T:TypeId} {fz:Nat×Nat} (hm:(b,Obj.cells c T fz)∈H.flatten) {v:Value} (hv:c[o]?=some v):
  w.cell? ⟨b,o,none⟩=some v:=by
 have:=h.own _ hm
 simp only at this
 simp[World.cell?,this,hv]
theorem run_loadCells (b o:Nat):∀(cs:List Value) (i:Nat) (acc:Array Value),(∀j v,cs[j]?=some v→w.cell? ⟨b,o+(i+j),none⟩=some v)→
  (loadCellsFrom ⟨b,o,none⟩ i cs.length acc).run P w= .ok (acc++cs.toArray) w
 |[],i,acc,_=>by simp[loadCellsFrom]
 |c::cs,i,acc,h=>by
  have h0:=h 0 c rfl
  simp only[Nat.add_zero]at h0
  have ih:=run_loadCells b o cs (i+1) (acc.push c) (fun j v hv=>by have:=h (j+1) v (by simpa using hv);rw[show i+1+j=i+(j+1) by omega];exact this)
  simp only[acB,loadCellsFrom,acN,da,load,Sem.run,h0,acM,ih]
  simp
theorem ja {T b o:Nat} {v:Value} (hx:a.eval x= .pointer (some ⟨b,o,none⟩)) (hag:isAg P T=some false) (hc:w.cell? ⟨b,o,none⟩=some v) (k:K (a.put dst v) w):
  Oper.wp P ⟨dst,.load T x,ty,pos,af,g⟩ a w K Q:=by
 refine ga ?_ k
 simp[execOp,Instr.loadAt,Instr.sureAddr,loadVar,hx,run_isAgg hag,load,Sem.run,hc]
def MRow (M:lh) (b o:Nat) (cs:List Value):Prop:=∀j v,cs[j]?=some v→gR M b (o+j)=some v
theorem Ok {G G':GS} (h:G.Le G') {b o:Nat} {v:Value} (hm:gR G.M b o=some v):gR G'.M b o=some v:=by
 unfold gR at hm ⊢
 rcases e:G.M b with _|ob
 ·simp[e]at hm
 ·rw[h.mem b ob e];rw[e]at hm;exact hm
theorem MRow.mono {G G':GS} (h:G.Le G') {b o:Nat} {cs:List Value} (hm:MRow G.M b o cs):MRow G'.M b o cs:=fun j v hv=>Ok h (hm j v hv)
theorem MRow.sub {M:lh} {b o:Nat} {cs ds:List Value} (h:MRow M b o cs) (i:Nat) (hd:(cs.drop i).take ds.length=ds):MRow M b (o+i) ds:=by
 intro j v hv
 rw[Nat.add_assoc]
 refine h (i+j) v ?_
 rw[←hd]at hv
 have hlt:j<ds.length:=by
  rcases Nat.lt_or_ge j ds.length with h1|h1
  ·exact h1
  ·rw[List.getElem?_take_eq_none h1]at hv;cases hv
 rw[acS hlt,List.getElem?_drop]at hv
 exact hv
theorem _root_.Go.Eng.Holds.rowO {G:GS} {H:List aA} (h:Holds G w H) {b o:Nat} {c:Array Value} {T:TypeId} {fz:Nat×Nat} (hm:(b,Obj.cells c T fz)∈H.flatten) {cs:List Value}
  (hd:(c.toList.drop o).take cs.length=cs):∀j v,cs[j]?=some v→w.cell? ⟨b,o+j,none⟩=some v:=by
 intro j v hv
 refine h.cellO hm ?_
 rw[←hd]at hv
 have hlt:j<cs.length:=by
  rcases Nat.lt_or_ge j cs.length with h1|h1
  ·exact h1
  ·rw[List.getElem?_take_eq_none h1]at hv;cases hv
 rw[acS hlt,List.getElem?_drop]at hv
 simpa using hv
def nY (P:Program) (t:Nat):Option (Array Value):=(P.info? t).bind fun i=>i.zero.map (·.cells)
theorem AE {t:Nat} {cs:Array Value} (h:nY P t=some cs) (w:World):∃z,(zeroValue t:Sem Value).run P w= .ok z w∧z.cells=cs:=by
 unfold nY at h
 rcases hi:P.info? t with _|i
 ·simp[hi]at h
 ·simp only[hi,Option.bind_some,acL]at h
  obtain⟨z,hz,rfl⟩:=h
  exact⟨z,by simp[zeroValue,typeInfo,hi,hz],rfl⟩
def ec (c:Array Value) (o:Nat):List Value→Array Value
 |[]=>c
 |v::r=>ec (c.setIfInBounds o v) (o+1) r
theorem oa:∀(vs:List Value) (c:Array Value) (o:Nat),(ec c o vs).size=c.size
 |[],_,_=>rfl
 |v::r,c,o=>by rw[ec,oa r];simp
theorem _root_.Go.Eng.Holds.setCell {G:GS} {F:List aA} {c0:aA} {j b:Nat} {c:Array Value} {T:TypeId} (h:Holds G w (c0::F)) (hj:c0[j]?=some (b,.cells c T (0,0))) (o:Nat) (v:Value):
  Holds G (w.setCell ⟨b,o,none⟩ v) (c0.set j (b,.cells (c.setIfInBounds o v) T (0,0))::F):=by
 obtain⟨hlt,hj'⟩:=List.getElem?_eq_some_iff.1 hj
 have hown:w.heap[b]?=some (.cells c T (0,0)):=h.own (b,.cells c T (0,0)) (by simp only[acG,acP];exact .inl (hj'▸List.getElem_mem hlt))
 have hkeys:(c0.set j (b,Obj.cells (c.setIfInBounds o v) T (0,0))).map (·.1)=c0.map (·.1):=by
  rw[List.map_set]
  refine List.ext_getElem? fun i=> ?_
  rw[List.getElem?_set]
  split
  ·rename_i e;subst e
   simp[hlt,hj']
  ·rfl
 have hself:(w.setCell ⟨b,o,none⟩ v).heap[b]?=some (.cells (c.setIfInBounds o v) T (0,0)):=by
  simp[World.setCell,Array.getElem?_modify,hown]
 refine h.turn rfl rfl rfl hkeys (fun k _ hk=>Below.heap_setCell _ _ _ _ ?_) (fun p hp=> ?_)
 ·intro e
  exact hk (e▸List.mem_map.2 ⟨(b,.cells c T (0,0)),hj'▸List.getElem_mem hlt,rfl⟩)
 ·rcases List.mem_or_eq_of_mem_set hp with hp|rfl
  ·by_cases e:p.1=b
   ·rw[e,hself]
    have hn:=h.nodup
    simp only[acG,acO]at hn
    have hn1:((c0.set j (b,Obj.cells (c.setIfInBounds o v) T (0,0))).map (·.1)).Nodup:=hkeys▸(List.nodup_append.1 hn).1
    have hx:=pE _ hn1 p (by assumption)
    have hy:=pE _ hn1 (b,Obj.cells (c.setIfInBounds o v) T (0,0)) (List.mem_iff_getElem?.2 ⟨j,by rw[List.getElem?_set];simp[hlt]⟩)
    rw[e]at hx
    simp only at hy
    rw[hx]at hy
    injection hy with hy
    rw[hy]
   ·rw[Below.heap_setCell _ _ _ _ e]
    exact h.own p (by simp only[acG,acP];exact .inl hp)
  ·exact hself
theorem tL {G:GS} {F:List aA} {j b:Nat} {T:TypeId} (o:Nat):∀(vs:List Value) (i:Nat) (w:World) (c0:aA) (c:Array Value),Holds G w (c0::F)→c0[j]?=some (b,.cells c T (0,0))→
  o+i+vs.length≤c.size→vs.all Value.oneCell'=true→
  ∃w',(storeCells ⟨b,o,none⟩ vs i).run P w= .ok () w'∧Holds G w' (c0.set j (b,.cells (ec c (o+i) vs) T (0,0))::F)
 |[],i,w,c0,c,h,hj,_,_=>by
  refine⟨w,rfl,?_⟩
  obtain⟨hlt,hj'⟩:=List.getElem?_eq_some_iff.1 hj
  have:c0.set j (b,.cells (ec c (o+i) []) T (0,0))=c0:=by rw[ec,←hj'];exact List.set_getElem_self hlt
  rw[this];exact h
 |v::vs,i,w,c0,c,h,hj,hb,h1=>by
  obtain⟨hlt,hj'⟩:=List.getElem?_eq_some_iff.1 hj
  have hown:w.heap[b]?=some (.cells c T (0,0)):=h.own (b,.cells c T (0,0)) (by simp only[acG,acP];exact .inl (hj'▸List.getElem_mem hlt))
  simp only[acB]at hb
  simp only[List.all_cons,acT]at h1
  have hcell:w.cell? ⟨b,o+i,none⟩=some (c[o+i]'(by omega)):=by
   simp only[World.cell?,hown]
   exact Array.getElem?_eq_getElem (by omega)
  have hfr:w.frozen? ⟨b,o+i,none⟩=false:=by
   simp[World.frozen?,hown]
  have hrun:∀k:Sem Unit,(Sem.store .plain ⟨b,o+i,none⟩ v k).run P w=k.run P (w.setCell ⟨b,o+i,none⟩ v):=by
   intro k
   have:=h1.1
   cases v<;>simp[Value.oneCell']at this<;>simp[Sem.run,hcell,hfr]
  have h2:=h.setCell hj (o+i) v
  have hj2:(c0.set j (b,Obj.cells (c.setIfInBounds (o+i) v) T (0,0)))[j]?=some (b,.cells (c.setIfInBounds (o+i) v) T (0,0)):=by rw[List.getElem?_set];simp[hlt]
  obtain⟨w',hr,hh⟩:=tL (j:=j) (b:=b) (T:=T) o vs (i+1) (w.setCell ⟨b,o+i,none⟩ v) _ (c.setIfInBounds (o+i) v) h2 hj2 (by simp;omega) h1.2
  refine⟨w',?_,?_⟩
  ·simp only[storeCells,acN,da,store,hrun]
   simp only[Sem.run,acM,hr]
  ·rw[List.set_set]at hh
   rw[ec]
   exact hh
theorem VH {G:GS} {F:List aA} {c0:aA} {j b o n:Nat} {c:Array Value} {T T':TypeId} {x y:Operand} {v:Value} (hx:a.eval x= .pointer (some ⟨b,o,none⟩)) (hy:a.eval y=v)
  (hs:szOf P T=some n) (hn:v.cells.size=n) (h:Holds G w (c0::F)) (hj:c0[j]?=some (b,.cells c T' (0,0))) (hb:o+n≤c.size) (h1:v.cells.toList.all Value.oneCell'=true)
  (k:∀w',Holds G w' (c0.set j (b,.cells (ec c o v.cells.toList) T' (0,0))::F)→K (a.put dst undef) w'):Oper.wp P ⟨dst,.store T x y,ty,pos,af,g⟩ a w K Q:=by
 subst hn
 obtain⟨w',hr,hh⟩:=tL (P:=P) o v.cells.toList 0 w c0 c h hj (by simpa using hb) h1
 refine Qm ?_ (k w' hh)
 simp[execOp,Instr.storeAt,Instr.sureAddr,hx,hy,storeVar,run_sizeOf hs,hr]
theorem oy:∀(vs:List Value) (c:Array Value) (o:Nat),o+vs.length≤c.size→(ec c o vs).toList=c.toList.take o++vs++c.toList.drop (o+vs.length)
 |[],c,o,_=>by simp[ec]
 |v::r,c,o,h=>by
  simp only[acB]at h
  have hlt:o<c.toList.length:=by simp;omega
  rw[ec,oy r _ _ (by simp;omega),Array.toList_setIfInBounds]
  have e1:(c.toList.set o v).take (o+1)=c.toList.take o++[v]:=by
   rw[List.take_add_one,List.take_set_of_le (acR _),List.getElem?_set_self hlt];rfl
  rw[e1,List.drop_set_of_lt (by omega)]
  simp only[acB,acJ,List.singleton_append,acI]
  rw[show o+1+r.length=o+(r.length+1) by omega]
  rfl
theorem SO {G:GS} {F:List aA} {c0:aA} {j b o n:Nat} {c:Array Value} {T T':TypeId} {x y:Operand} {v:Value} (hx:a.eval x= .pointer (some ⟨b,o,none⟩)) (hy:a.eval y=v)
  (hs:szOf P T=some n) (hn:v.cells.size=n) (h:Holds G w (c0::F)) (hj:c0[j]?=some (b,.cells c T' (0,0))) (hb:Nat.ble (o+n) c.size=true) (h1:v.cells.toList.all Value.oneCell'=true)
  {cl:List Value} (hcl:c.toList.take o++v.cells.toList++c.toList.drop (o+n)=cl)
  (k:∀w',Holds G w' (c0.set j (b,.cells cl.toArray T' (0,0))::F)→K (a.put dst undef) w'):Oper.wp P ⟨dst,.store T x y,ty,pos,af,g⟩ a w K Q:=by
 have hb':=Nat.le_of_ble_eq_true hb
 refine VH hx hy hs hn h hj hb' h1 (fun w' hh=>k w' ?_)
 have e:ec c o v.cells.toList=cl.toArray:=by
  rw[←hcl,←hn]
  have:=oy v.cells.toList c o (by simp;omega)
  simp only[Array.length_toList]at this
  rw[←this]
 rw[e]at hh
 exact hh
def xz (P:Program) (f:Nat):Option (Bool×Bool):=(P.funcs[f]?).map fun fn=>(fn.name== "runtime.NumGoroutine",fn.body.isNone)
theorem qh {f:Nat} (h:xz P f=some (false,false)) (args:Array Value) (w:World):(callFunc f args).run P w= .ok (.enter f args) w:=by
 unfold xz at h
 rcases hf:P.funcs[f]? with _|fn
 ·simp[hf]at h
 ·simp only[hf,Option.map_some,acU,Prod.mk.injEq]at h
  have h1:fn.name≠ "runtime.NumGoroutine" :=by simpa using h.1
  have h2:fn.body≠none:=by intro e;rw[e]at h;simp at h
  simp[callFunc,hf,h1,h2]
def AZ (L:List (Nat×Value)):List Operand→Option (List Value)
 |[]=>some []
 |x::r=>match wt L x with
  |some v=>match AZ L r with
   |some vs=>some (v::vs)
   |none=>none
  |none=>none
theorem FD {N:Nat} {L:List (Nat×Value)} (s:SF N a L):∀(xs:List Operand) {vs:List Value},AZ L xs=some vs→xs.map a.eval=vs
 |[],vs,h=>by simp[AZ]at h;subst h;rfl
 |x::xs,vs,h=>by
  simp only[AZ]at h
  rcases hx:wt L x with _|v
  ·simp[hx]at h
  ·rcases hr:AZ L xs with _|r
   ·simp[hx,hr]at h
   ·simp[hx,hr]at h
    subst h
    simp[s.ev hx,FD s xs hr]
theorem aay {N f:Nat} {L:List (Nat×Value)} {xs:List Operand} {vs:List Value} {ta:Array TypeId} {R:Ending→World→Prop} (s:SF N a L) (hv:AZ L xs=some vs) (hf:xz P f=some (false,false))
  (hc:Calls P f vs.toArray w R) (k:∀e w',R e w'→∃v,e= .returned v∧K (a.put dst v) w'):
  Oper.wp P ⟨dst,.call {callee:=.value (.func f),args:=xs.toArray,argTypes:=ta},ty,pos,af,g⟩ a w K Q:=by
 refine El (f:=f) (args:=vs.toArray) (w':=w) ?_ (hc.mono k)
 have e:=FD s xs hv
 simp[execOp,resolve,Act.eval,Deferred.ofValue,invoke]
 rw[qh hf]
 simp[←e]
end
end
end
def nq (D:Nat→Bool) (i:Nat):Nat→Bool:=fun j=>bif Nat.beq j i then true else D j
theorem wM (D:Nat→Bool) (i:Nat):nq D i i=true:=by simp[nq]
theorem DP (D:Nat→Bool) {i j:Nat} (h:j≠i):nq D i j=D j:=by
 have hb:Nat.beq j i=false:=by
  cases hb:Nat.beq j i with
  |false=>rfl
  |true=>exact absurd (acE hb) h
 simp[nq,hb]
def rI (o:Oper):List Nat:=o.after.toList.filterMap fun e=>if Region.binds .any e then some e.on else none
structure Ready (l:List Oper) (D:Nat→Bool) (i:Nat):Prop where
 todo:D i=false
 done:∀o,l[i]?=some o→∀j∈rI o,D j=true
 closed:∀k o,l[k]?=some o→D k=true→∀j∈rI o,D j=true
def Dq (P:Program) (l:List Oper) (Q:Exit→Act→World→Prop) (J:(Nat→Bool)→Act→World→Prop) (i:Nat) (o:Oper):Prop:=
 ∀D a w,Ready l D i→J D a w→if Region.wanted o (yielded l.toArray a.tmps)=true then o.wp P a w (J (nq D i)) Q∨(o.asks P a w∧LetsOut Q) else J (nq D i) (a.put o.dst undef) w
def Steps (P:Program) (l:List Oper) (Q:Exit→Act→World→Prop) (J:(Nat→Bool)→Act→World→Prop):Nat→List Oper→Prop
 |_,[]=>True
 |i,o::r=>Dq P l Q J i o∧Steps P l Q J (i+1) r
def EI (l:List Oper):Bool:=l.zipIdx.all fun p=>(rI p.1).all fun j=>Nat.blt j p.2
section
variable {P:Program} {Q:Exit→Act→World→Prop} {a:Act} {w:World} {l:List Oper} {J:(Nat→Bool)→Act→World→Prop}
theorem Steps.at:∀(r:List Oper) (i:Nat),Steps P l Q J i r→∀k o,r[k]?=some o→Dq P l Q J (i+k) o
 |[],_,_,_,_,h=>by simp at h
 |o::r,i,hs,0,o',h=>by
  simp only[List.getElem?_cons_zero,acU]at h
  subst h
  exact hs.1
 |o::r,i,hs,k+1,o',h=>by
  have:=Steps.at r (i+1) hs.2 k o' (by simpa using h)
  rw[show i+(k+1)=i+1+k by omega];exact this
theorem UU (hs:Steps P l Q J 0 l) (hup:EI l=true) (hend:∀D a w,(∀i,i<l.length→D i=true)→J D a w→Q .normal a w):
  ∀(fuel:Nat) (listed:Array Bool) (a:Act) (w:World),listed.size=l.length→(listed.toList.filter (! ·)).length≤fuel→
   (∀k o,l[k]?=some o→listed.getD k false=true→∀j∈rI o,listed.getD j false=true)→J (fun i=>listed.getD i false) a w→wpAny P .any l.toArray Q fuel listed a w:=by
 have hfind:∀(listed:Array Bool),listed.size=l.length→Region.ready .any l.toArray listed=[]→∀i,i<l.length→listed.getD i false=true:=by
  intro listed hsz hr i
  induction i using Nat.strongRecOn with
  |_ i ih=>
   intro hi
   rcases hb:listed.getD i false with _|_
   ·exfalso
    have hmem:i∈Region.ready .any l.toArray listed:=by
     rw[mem_ready]
     refine⟨?_,l[i],by simp[hi],?_⟩
     ·have hlt:i<listed.size:=by omega
      simp only[Array.getD,hlt,dif_pos]at hb ⊢
      exact hb
     ·intro e he hbi
      have hm:e.on∈rI l[i]:=List.mem_filterMap.2 ⟨e,Array.mem_toList_iff.2 he,by simp[hbi]⟩
      have hlt:e.on<i:=by
       have:=List.all_eq_true.1 hup (l[i],i) (by rw[List.mem_iff_getElem?];exact⟨i,by simp[hi]⟩)
       have:=List.all_eq_true.1 this e.on hm
       simpa[acZ] using this
      exact ih e.on hlt (by omega)
    rw[hr]at hmem
    cases hmem
   ·rfl
 intro fuel
 induction fuel with
 |zero=>
  intro listed a w hsz hf hcl hJ
  have hall:∀i,i<l.length→listed.getD i false=true:=by
   intro i hi
   have hlt:i<listed.size:=by omega
   simp only[Array.getD,hlt,dif_pos]
   rcases hb:listed[i] with _|_
   ·exfalso
    have:false∈listed.toList.filter (! ·):=List.mem_filter.2 ⟨by rw[←hb];simp,rfl⟩
    have:=List.length_pos_of_mem this
    omega
   ·exact hb
  refine⟨?_,hend _ a w hall hJ⟩
  rw[List.eq_nil_iff_forall_not_mem]
  intro i hi
  rw[mem_ready]at hi
  obtain⟨h1,o,ho,_⟩:=hi
  have hlt:i<l.length:=by simpa using(Array.getElem?_eq_some_iff.1 ho).1
  have h2:=hall i hlt
  have hlt':i<listed.size:=by omega
  simp only[Array.getD,hlt',dif_pos]at h1 h2
  rw[h1]at h2;cases h2
 |succ fuel ih=>
  intro listed a w hsz hf hcl hJ
  refine⟨fun hr=>hend _ a w (hfind listed hsz hr) hJ,fun i hi=> ?_⟩
  rw[mem_ready]at hi
  obtain⟨h1,o,ho,hw⟩:=hi
  have hlt:i<l.length:=by simpa using(Array.getElem?_eq_some_iff.1 ho).1
  have hlt':i<listed.size:=by omega
  have ho':l[i]?=some o:=by simpa using ho
  have hfalse:listed.getD i false=false:=by
   simp only[Array.getD,hlt',dif_pos]at h1 ⊢;exact h1
  have hdone:∀j∈rI o,listed.getD j false=true:=by
   intro j hj
   obtain⟨e,he,hej⟩:=List.mem_filterMap.1 hj
   split at hej
   ·rename_i hb
    injection hej with hej
    subst hej
    exact hw e (Array.mem_toList_iff.1 he) hb
   ·cases hej
  have hstep:=(Steps.at l 0 hs i o ho')
  rw[Nat.zero_add]at hstep
  have hset:(fun j=>(listed.setIfInBounds i true).getD j false)=nq (fun j=>listed.getD j false) i:=by
   funext j
   by_cases e:j=i
   ·subst e
    rw[wM]
    simp[Array.getD,hlt']
   ·rw[DP _ e]
    exact getD_set_ne _ (fun e'=>e e'.symm)
  have hnext:∀a w,J (nq (fun j=>listed.getD j false) i) a w→wpAny P .any l.toArray Q fuel (listed.setIfInBounds i true) a w:=by
   intro a w hJ'
   refine ih _ a w (by simpa using hsz) ?_ ?_ (hset▸hJ')
   ·have hcount:∀(L:List Bool) (k:Nat),L[k]?=some false→((L.set k true).filter (! ·)).length+1=(L.filter (! ·)).length:=by
     intro L
     induction L with
     |nil=>intro k hk;simp at hk
     |cons x L ihL=>
      intro k hk
      cases k with
      |zero=>
       simp only[List.getElem?_cons_zero,acU]at hk
       subst hk
       simp
      |succ k=>
       have:=ihL k (by simpa using hk)
       simp only[List.set_cons_succ,List.filter_cons]
       split
       ·simp only[acB];omega
       ·exact this
    have:=hcount listed.toList i (by
     rw[Array.getElem?_toList,Array.getElem?_eq_getElem hlt']
     simp only[Array.getD,hlt',dif_pos]at hfalse
     exact congrArg some hfalse)
    rw[Array.toList_setIfInBounds]
    omega
   ·intro k o' hk hD j hj
    by_cases e:k=i
    ·subst e
     have:o'=o:=by rw[ho']at hk;exact(acY hk).symm
     subst this
     exact getD_set_true (hdone j hj)
    ·rw[getD_set_ne _ (fun e'=>e e'.symm)]at hD
     exact getD_set_true (hcl k o' hk hD j hj)
  have hR:Ready l (fun j=>listed.getD j false) i:=⟨hfalse,fun o'' ho''=>by rw[ho']at ho'';injection ho'' with e;subst e;exact hdone,hcl⟩
  have:=hstep _ a w hR hJ
  unfold wpOp
  rw[ho]
  simp only
  split
  ·rename_i hwt
   rw[if_pos hwt]at this
   exact this.imp (Oper.wp_mono hnext) id
  ·rename_i hwt
   rw[if_neg hwt]at this
   exact hnext _ _ this
theorem Sz {id:Nat} (hm:P.follows .mixedOrders=true) (hup:EI l=true) (h0:J (fun _=>false) a {w with drawn:=w.drawn+1}) (hs:Steps P l Q J 0 l)
  (hend:∀D a w,(∀i,i<l.length→D i=true)→J D a w→Q .normal a w):(Code.region id l.toArray true).wp P Q a w:=by
 refine wp_region_any hm ?_
 refine UU hs hup hend _ _ a _ (by simp) ?_ ?_ ?_
 ·simp only[Array.toList_replicate,List.size_toArray]
  exact Nat.le_trans (List.length_filter_le _ _) (by simp)
 ·intro k o _ hD
  simp[Array.getD]at hD
 ·have:(fun i=>(Array.replicate l.toArray.size false).getD i false)=fun _=>false:=by
   funext i
   simp[Array.getD]
  rw[this];exact h0
end
section
variable {P:Program} {ops:Array Oper} {Q:Exit→Act→World→Prop} {K:Act→World→Prop} {a:Act} {w:World} {fn:Func} {R:Ending→World→Prop}
theorem gG (h:K a w):Exit.then K Q .normal a w:=h
theorem abL {N:Nat} {L:List (Nat×Value)} {c:Operand} {x y:Code} {b:Bool} (s:SF N a L) (hc:wt L c=some (.bool b)) (hb:b=true) (ht:x.wp P Q a w):(Code.cond c x y).wp P Q a w:=
 wp_cond_true (by rw[s.ev hc,hb]) ht
theorem Uu {N:Nat} {L:List (Nat×Value)} {c:Operand} {x y:Code} {b:Bool} (s:SF N a L) (hc:wt L c=some (.bool b)) (hb:b=false) (hf:y.wp P Q a w):(Code.cond c x y).wp P Q a w:=
 wp_cond_false (by rw[s.ev hc,hb]) hf
theorem abc {N t:Nat} {L:List (Nat×Value)} {v:Value} (s:SF N a L) (hr:fn.results= #[.tmp t]) (hv:lk L t=some v) (h:R (.returned v) w):bodyPost P fn R .ret a w:=
 ⟨s.defers,v,by rw[results_tmp hr,s.at_ t v hv],h⟩
theorem UL {N:Nat} {L:List (Nat×Value)} (s:SF N a L) (hr:fn.results= #[]) (h:R (.returned (.tuple #[])) w):bodyPost P fn R .normal a w:=
 ⟨s.defers,_,results_none hr _ _ _,h⟩
theorem acr {N t u:Nat} {L:List (Nat×Value)} {v z:Value} (s:SF N a L) (hr:fn.results= #[.tmp t,.tmp u]) (hv:lk L t=some v) (hz:lk L u=some z) (h:R (.returned (.tuple #[v,z])) w):bodyPost P fn R .ret a w:=
 ⟨s.defers,_,by rw[results_tmp2 hr,s.at_ t v hv,s.at_ u z hz],h⟩
theorem run_loadVarAgg {T b o n:Nat} {cs:List Value} (hag:isAg P T=some true) (hs:szOf P T=some n) (hl:cs.length=n)
  (hc:∀j v,cs[j]?=some v→w.cell? ⟨b,o+j,none⟩=some v):(loadVar T ⟨b,o,none⟩).run P w= .ok (.agg cs.toArray) w:=by
 subst hl
 have:=run_loadCells (P:=P) (w:=w) b o cs 0 #[] (fun j v hv=>by simpa using hc j v hv)
 simp[loadVar,run_isAgg hag,run_sizeOf hs,loadCells,this]
theorem run_loadVarOne {T b o:Nat} {v:Value} (hag:isAg P T=some false) (hc:w.cell? ⟨b,o,none⟩=some v):(loadVar T ⟨b,o,none⟩).run P w= .ok v w:=by
 simp[loadVar,run_isAgg hag,load,Sem.run,hc]
theorem enter {f:FuncId} {c:Code} {args:List Value} {N:Nat} {L:List (Nat×Value)} (hL:args.zipIdx.map (fun p=>(p.2,p.1))=L) (hf:P.funcs[f]?=some fn) (hb:fn.body=some c) (hN:fn.ntmps=N) (hl:Nat.ble args.length N=true)
  (h:∀a,SF N a L→c.wp P (bodyPost P fn R) a w):Calls P f args.toArray w R:=by
 subst hN
 subst hL
 refine calls_of_wp hf hb ?_
 refine h _ ?_
 have:=SF.enter fn.ntmps args (by simpa using Nat.le_of_ble_eq_true hl)
 simpa using this
end
theorem wrap_i64 {z:Int} (h1: -9223372036854775808≤z) (h2:z≤9223372036854775807):IntKind.i64.wrap z=z:=IntWalk.i64_in z ⟨h1,h2⟩
theorem Hk {z:Int} (h1: -2147483648≤z) (h2:z≤2147483647):IntKind.i32.wrap z=z:=IntWalk.i32_in z ⟨h1,h2⟩
theorem wrap_u8 {z:Int} (h1:0≤z) (h2:z≤255):IntKind.u8.wrap z=z:=IntWalk.u8_in z ⟨h1,h2⟩
theorem Hj {z:Int} (h1:0≤z) (h2:z≤65535):IntKind.u16.wrap z=z:=IntWalk.u16_in z ⟨h1,h2⟩
theorem wrap_u32 {z:Int} (h1:0≤z) (h2:z≤4294967295):IntKind.u32.wrap z=z:=IntWalk.u32_in z ⟨h1,h2⟩
theorem Hi {z:Int} (h1:0≤z) (h2:z≤18446744073709551615):IntKind.u64.wrap z=z:=IntWalk.u64_in z ⟨h1,h2⟩
def Ret (G:GS) (F:List aA) (post:GS→Value→Prop):Ending→World→Prop:=
 fun e w'=>∃v G',e= .returned v∧G.Le G'∧Holds G' w' F∧post G' v
def OZ (G:GS) (F:List aA) (post:GS→Value→aA→Prop):Ending→World→Prop:=
 fun e w'=>∃v G' c',e= .returned v∧G.Le G'∧Holds G' w' (c'::F)∧post G' v c'
structure Row (E size:Nat) (ao:Option Addr) (n cap:Nat) (xs:List Value) (c:aA):Prop where
 len:xs.length=n*size
 form:(ao=none∧n=0∧cap=0∧c=[])∨∃g cur,ao=some ⟨g,0,none⟩∧c=[(g,.cells cur E (0,0))]∧n≤cap∧cap≤maxLen∧cur.size=cap*size∧cur.toList.take (n*size)=xs
theorem Row.nil (E size:Nat):Row E size none 0 0 [] []:=⟨by simp,.inl ⟨rfl,rfl,rfl,rfl⟩⟩
theorem Row.owns {G:GS} {w:World} {F:List aA} {E size n cap:Nat} {ao:Option Addr} {xs:List Value} {c:aA} (r:Row E size ao n cap xs c) (h:Holds G w (c::F)):w.ownsRow 0 E size (.slice ao n cap) n xs:=by
 refine⟨r.len,?_⟩
 rcases r.form with⟨rfl,rfl,rfl,rfl⟩|⟨g,cur,rfl,rfl,h1,h2,h3,h4⟩
 ·exact .inl ⟨rfl,rfl⟩
 ·exact .inr ⟨g,cap,cur,rfl,Nat.zero_le _,h.own (g,.cells cur E (0,0)) (by simp),h1,h2,h3,h4⟩
theorem Holds.regrow {G:GS} {w w':World} {F:List aA} {c:aA} {row:Option Nat} (h:Holds G w (c::F)) (hg:w.grownBy w' row) (hrow:∀g,row=some g→g∈c.map (·.1)) {g:Nat} {o:Obj}
  (hw:w'.heap[g]?=some o) (hgc:row=some g∨w.heap.size≤g):Holds G w' ([(g,o)]::F):=by
 have hF:=h.drop
 have hn:=h.nodup
 simp only[acG,acO]at hn
 have hd:=(List.nodup_append.1 hn).2.2
 have hkeep:∀b,b<w.heap.size→b∉c.map (·.1)→w'.heap[b]?=w.heap[b]?:=fun b hb hbc=>hg.block b hb (fun e=>hbc (hrow b e.symm))
 have hmem:∀b o',G.M b=some o'→b∉c.map (·.1):=by
  intro b o' hb hm
  obtain⟨p,hp,rfl⟩:=List.mem_map.1 hm
  have:=h.apart p (by simp only[acG,acP];exact .inl hp)
  rw[this]at hb;cases hb
 refine⟨hg.os.trans h.os,hg.tape.trans h.tape,hg.output.trans h.output,fun b o' hb=> ?_,fun p hp=> ?_,?_,fun p hp=> ?_⟩
 ·have:=h.mem b o' hb
  rw[hkeep b (bu this) (hmem b o' hb)];exact this
 ·simp only[acG,acI,acK,List.mem_cons]at hp
  rcases hp with rfl|hp
  ·exact hw
  ·have:=hF.own p hp
   rw[hkeep p.1 (bu this) (fun hm=>hd _ hm _ (List.mem_map_of_mem hp) rfl)];exact this
 ·simp only[acG,acI,acK,acH,List.nodup_cons]
  refine⟨fun hm=> ?_,hF.nodup⟩
  obtain⟨p,hp,e⟩:=List.mem_map.1 hm
  rcases hgc with hr|hr
  ·exact hd _ (hrow g hr) _ (List.mem_map_of_mem hp) e.symm
  ·have:=bu (hF.own p hp);omega
 ·simp only[acG,acI,acK,List.mem_cons]at hp
  rcases hp with rfl|hp
  ·rcases e:G.M g with _|o'
   ·rfl
   ·rcases hgc with hr|hr
    ·exact absurd (hrow g hr) (hmem g o' e)
    ·have:=bu (h.mem g o' e);omega
  ·exact hF.apart p hp
structure Fact where
 p:GS→Value→Prop
 mono:∀G G' v,G.Le G'→p G v→p G' v
def Fact.eq (u:Value):Fact:=⟨fun _ v=>v=u,fun _ _ _ _ h=>h⟩
def Fact.any:Fact:=⟨fun _ _=>True,fun _ _ _ _ h=>h⟩
def Fact.imp (b:Bool) (f:Fact):Fact:=⟨fun G v=>b=true→f.p G v,fun G G' v hG h hb=>f.mono G G' v hG (h hb)⟩
abbrev Dr:=List (Option Nat×Fact)
def Phi (X:Dr) (D:Nat→Bool) (a:Act) (G:GS):Prop:=∀i d f,X[i]?=some (some d,f)→D i=true→f.p G (a.tmps.getD d undef)
abbrev KK:=List (Nat×Nat×Value)
def Pre (O:KK) (D:Nat→Bool) (a:Act):Prop:=∀(i k t:Nat) (v:Value),O[i]?=some (k,t,v)→D k=false→a.tmps.getD t undef=v
structure JR (N:Nat) (L0:List (Nat×Value)) (X:Dr) (O:KK) (HR:(Nat→Bool)→Act→GS→List aA→Prop) (G0:GS) (D:Nat→Bool) (a:Act) (w:World) (G:GS) (H:List aA):Prop where
 le:G0.Le G
 hr:HR D a G H
 holds:Holds G w H
 sf:SF N a L0
 phi:Phi X D a G
 pre:Pre O D a
def J (N:Nat) (L0:List (Nat×Value)) (X:Dr) (O:KK) (HR:(Nat→Bool)→Act→GS→List aA→Prop) (G0:GS):(Nat→Bool)→Act→World→Prop:=
 fun D a w=>∃G H,JR N L0 X O HR G0 D a w G H
def Xg:Value→Nat
 |.pointer (some p)=>p.block
 |.slice (some p) _ _=>p.block
 |.map (some b)=>b
 |_=>0
theorem RY (b o:Nat) (p:Option Nat):Xg (.pointer (some ⟨b,o,p⟩))=b:=rfl
theorem Ng (b o n c:Nat) (p:Option Nat):Xg (.slice (some ⟨b,o,p⟩) n c)=b:=rfl
theorem SB (a:Act) (v:Value):a.put none v=a:=rfl
def Fact.ex (f:Nat→Value):Fact:=⟨fun _ v=>∃b,v=f b,fun _ _ _ _ h=>h⟩
def Mc (N:Nat) (L0:List (Nat×Value)) (X:Dr) (O:KK):Bool:=
 let ds:=X.map (·.1)
 let idx:=ds.zipIdx
 idx.all (fun p=>match p.1 with
  |none=>true
  |some d=>Nat.blt d N&&(L0.all fun q=> !Nat.beq q.1 d)&&(idx.all fun q=>Nat.beq q.2 p.2||(match q.1 with|some e=> !Nat.beq e d|none=>true))&&(O.all fun q=>Nat.beq q.1 p.2|| !Nat.beq q.2.1 d))
section
variable {P:Program} {Q:Exit→Act→World→Prop} {l:List Oper} {N:Nat} {L0:List (Nat×Value)} {X:Dr} {O:KK} {HR:(Nat→Bool)→Act→GS→List aA→Prop} {G0:GS} {a:Act} {w:World}
theorem getD_put {a:Act} {d t:Nat} {v:Value} (h:t≠d):(a.put (some d) v).tmps.getD t undef=a.tmps.getD t undef:=by
 show(a.tmps.setIfInBounds d v).getD t undef=_
 rw[Array.getD_eq_getD_getElem?,Array.getD_eq_getD_getElem?,Array.getElem?_setIfInBounds_ne (fun e=>h e.symm)]
theorem wE {a:Act} {d:Nat} {v:Value} (h:d<a.tmps.size):(a.put (some d) v).tmps.getD d undef=v:=by
 simp[Act.put,Array.getD,h]
theorem qG {i j:Nat} (h:(!Nat.beq i j)=true):i≠j:=by
 rintro rfl
 simp at h
theorem aau (h:Mc N L0 X O=true) {i d:Nat} {f:Fact} (hi:X[i]?=some (some d,f)):
  d<N∧(∀q∈L0,q.1≠d)∧(∀j e f',X[j]?=some (some e,f')→j≠i→e≠d)∧(∀(j k t:Nat) v,O[j]?=some (k,t,v)→k≠i→t≠d):=by
 unfold Mc at h
 have hm:(some d,i)∈(X.map (·.1)).zipIdx:=by
  rw[List.mem_iff_getElem?]
  exact⟨i,by simp[hi]⟩
 have h1:=List.all_eq_true.1 h _ hm
 simp only[acT]at h1
 obtain⟨⟨⟨h1,h2⟩,h3⟩,h4⟩:=h1
 refine⟨by simpa[acZ] using h1,fun q hq=>qG (List.all_eq_true.1 h2 q hq),fun j e f' hj hne=> ?_,fun j k t v hj hne=> ?_⟩
 ·have hm2:(some e,j)∈(X.map (·.1)).zipIdx:=by
   rw[List.mem_iff_getElem?]
   exact⟨j,by simp[hj]⟩
  have:=List.all_eq_true.1 h3 _ hm2
  simp only[Bool.or_eq_true]at this
  rcases this with h|h
  ·exact absurd (acE h) hne
  ·exact qG h
 ·have:=List.all_eq_true.1 h4 (k,t,v) (List.mem_iff_getElem?.2 ⟨j,hj⟩)
  simp only[Bool.or_eq_true]at this
  rcases this with h|h
  ·exact absurd (acE h) hne
  ·exact qG h
theorem SF.put_far {a:Act} {d:Nat} {v:Value} (s:SF N a L0) (h:∀q∈L0,q.1≠d):SF N (a.put (some d) v) L0:=by
 refine⟨by simpa[Act.put] using s.size,s.defers,fun t u hu=> ?_⟩
 have hne:t≠d:=by
  have:∀K:List (Nat×Value),lk K t=some u→∃q∈K,q.1=t:=by
   intro K
   induction K with
   |nil=>intro e;simp[lk]at e
   |cons p K ih=>
    intro e
    cases hb:Nat.beq t p.1 with
    |true=>exact⟨p,by simp,(acE hb).symm⟩
    |false=>
     simp only[lk,hb,cond_false]at e
     obtain⟨q,hq,e1⟩:=ih e
     exact⟨q,by simp[hq],e1⟩
  obtain⟨q,hq,rfl⟩:=this L0 hu
  exact h q hq
 rw[getD_put hne]
 exact s.at_ t u hu
theorem SF.know {a:Act} {L:List (Nat×Value)} (s:SF N a L) (d:Nat) (v:Value) (h:a.tmps.getD d undef=v):SF N a ((d,v)::L):=by
 refine⟨s.size,s.defers,fun t u hu=> ?_⟩
 cases hb:Nat.beq t d with
 |true=>
  have:=acE hb
  subst this
  simp only[lk,hb,cond_true,acU]at hu
  rw[h,hu]
 |false=>
  simp only[lk,hb,cond_false]at hu
  exact s.at_ t u hu
theorem JR.did {D:Nat→Bool} {G G':GS} {H H':List aA} {w':World} {i d:Nat} {f:Fact} {v:Value} (j:JR N L0 X O HR G0 D a w G H) (hok:Mc N L0 X O=true) (hi:X[i]?=some (some d,f))
  (hG:G.Le G') (hH:Holds G' w' H') (hHR:HR (nq D i) (a.put (some d) v) G' H') (hv:f.p G' v):J N L0 X O HR G0 (nq D i) (a.put (some d) v) w':=by
 obtain⟨h1,h2,h3,h4⟩:=aau hok hi
 refine⟨G',H',j.le.trans hG,hHR,hH,j.sf.put_far h2,fun k e f' hk hD=> ?_,fun k o t u hk hD=> ?_⟩
 ·by_cases e0:k=i
  ·subst e0
   rw[hi]at hk
   injection hk with hk
   injection hk with hk1 hk2
   injection hk1 with hk1
   subst hk1;subst hk2
   rw[wE (by rw[j.sf.size];exact h1)]
   exact hv
  ·rw[DP _ e0]at hD
   rw[getD_put (h3 k e f' hk e0)]
   exact f'.mono G G' _ hG (j.phi k e f' hk hD)
 ·by_cases e0:o=i
  ·subst e0;rw[wM]at hD;cases hD
  ·rw[DP _ e0]at hD
   rw[getD_put (h4 k o t u hk e0)]
   exact j.pre k o t u hk hD
theorem JR.skip {D:Nat→Bool} {G:GS} {H:List aA} {i d:Nat} {b:Bool} {f:Fact} (j:JR N L0 X O HR G0 D a w G H) (hok:Mc N L0 X O=true) (hi:X[i]?=some (some d,Fact.imp b f)) (hb:b=false)
  (hHR:HR (nq D i) (a.put (some d) undef) G H):J N L0 X O HR G0 (nq D i) (a.put (some d) undef) w:=
 j.did hok hi (GS.Le.refl G) j.holds hHR (fun h=>by rw[hb]at h;cases h)
theorem JR.gotE {D:Nat→Bool} {G:GS} {H:List aA} (j:JR N L0 X O HR G0 D a w G H) (i:Nat) {d:Nat} {u:Value} (hi:X[i]?=some (some d,Fact.eq u)) (hD:D i=true):a.tmps.getD d undef=u:=j.phi i d _ hi hD
theorem JR.old {D:Nat→Bool} {G:GS} {H:List aA} (j:JR N L0 X O HR G0 D a w G H) (i:Nat) {k t:Nat} {v:Value} (hi:O[i]?=some (k,t,v)) (hD:D k=false):a.tmps.getD t undef=v:=j.pre i k t v hi hD
theorem cN {i:Nat} {o:Oper} (hg:o.guard=none) (h:∀D a w G H,Ready l D i→JR N L0 X O HR G0 D a w G H→o.wp P a w (J N L0 X O HR G0 (nq D i)) Q):Dq P l Q (J N L0 X O HR G0) i o:=by
 intro D a w hR ⟨G,H,j⟩
 rw[if_pos (by simp[Region.wanted,hg])]
 exact .inl (h D a w G H hR j)
theorem Ready.was {D:Nat→Bool} {i:Nat} (h:Ready l D i) {o:Oper} (ho:l[i]?=some o) (j:Nat) (hj:(rI o).contains j=true):D j=true:=h.done o ho j (by simpa using hj)
theorem Ready.not {D:Nat→Bool} {i:Nat} (h:Ready l D i) {k j:Nat} {o:Oper} (hk:l[k]?=some o) (hj:(rI o).contains j=true) (hD:D j=false):D k=false:=by
 cases e:D k with
 |false=>rfl
 |true=>rw[h.closed k o hk e j (by simpa using hj)]at hD;cases hD
theorem zR {id:Nat} {G:GS} {H:List aA} (hm:P.follows .mixedOrders=true) (hup:EI l=true) (h:Holds G w H) (hHR:HR (fun _=>false) a G H) (s:SF N a L0) (hpre:∀(i k t:Nat) (v:Value),O[i]?=some (k,t,v)→a.tmps.getD t undef=v)
  (hs:Steps P l Q (J N L0 X O HR G) 0 l) (hend:∀D a w G' H',(∀i,i<l.length→D i=true)→JR N L0 X O HR G D a w G' H'→Q .normal a w):(Code.region id l.toArray true).wp P Q a w:=
 Sz hm hup ⟨G,H,GS.Le.refl G,hHR,h.drawn,s,fun _ _ _ _ hD=>by simp at hD,fun i k t v hi _=>hpre i k t v hi⟩ hs fun D a w hall ⟨G',H',j⟩=>hend D a w G' H' hall j
theorem Steps.of:∀(r:List Oper) (i:Nat) {J:(Nat→Bool)→Act→World→Prop},(∀k o,r[k]?=some o→Dq P l Q J (i+k) o)→Steps P l Q J i r
 |[],_,_,_=>trivial
 |o::r,i,J,h=>⟨h 0 o rfl,Steps.of r (i+1) fun k o' hk=>by have:=h (k+1) o' (by simpa using hk);rwa[show i+(k+1)=i+1+k by omega]at this⟩
end
end Go.Eng
namespace Go.Eng
open Go Go.RowKit
section
variable {P:Program} {ops:Array Oper} {Q:Exit→Act→World→Prop} {a:Act} {w:World} {rest:List Oper} {N d:Nat} {L:List (Nat×Value)} {G:GS} {H:List aA} {ty:TypeId} {pos:String} {af:Array Edge}
theorem LS {F:List aA} {c0:aA} {j b o n:Nat} {c:Array Value} {T T':TypeId} {x y:Operand} {v:Value} (s:SF N a L) (hx:wt L x=some (.pointer (some ⟨b,o,none⟩))) (hy:wt L y=some v)
  (hs:szOf P T=some n) (hn:v.cells.size=n) (h:Holds G w (c0::F)) (hj:c0[j]?=some (b,.cells c T' (0,0))) (hb:Nat.ble (o+n) c.size=true) (h1:v.cells.toList.all Value.oneCell'=true)
  {cl:List Value} (hcl:c.toList.take o++v.cells.toList++c.toList.drop (o+n)=cl)
  (k:∀a' w',SF N a' L→Holds G w' (c0.set j (b,.cells cl.toArray T' (0,0))::F)→wpList P ops Q rest a' w'):wpList P ops Q (⟨none,.store T x y,ty,pos,af,none⟩::rest) a w:=
 wl rfl (SO (s.ev hx) (s.ev hy) hs hn h hj hb h1 hcl (fun w' hh=>k _ w' (s.put0 _) hh))
end
end Go.Eng
namespace Go.Eng
open Go Go.RowKit
theorem Holds.rowI {G:GS} {w:World} {H:List aA} (h:Holds G w H) (i j:Nat) {c0:aA} {b o:Nat} {c:Array Value} {T:TypeId} {fz:Nat×Nat} (hi:H[i]?=some c0) (hj:c0[j]?=some (b,.cells c T fz)) {cs:List Value}
  (hd:(c.toList.drop o).take cs.length=cs):∀k v,cs[k]?=some v→w.cell? ⟨b,o+k,none⟩=some v:=
 h.rowO (c:=c) (T:=T) (fz:=fz) (List.mem_flatten.2 ⟨c0,List.mem_iff_getElem?.2 ⟨i,hi⟩,List.mem_iff_getElem?.2 ⟨j,hj⟩⟩) hd
end Go.Eng
namespace Go.Eng
open Go Go.RowKit
end Go.Eng
namespace Go.Eng
open Go Go.RowKit
theorem aaN {H:List aA} (i j:Nat) {c0:aA} {x:Nat×Obj} (hi:H[i]?=some c0) (hj:c0[j]?=some x):x∈H.flatten:=
 List.mem_flatten.2 ⟨c0,List.mem_iff_getElem?.2 ⟨i,hi⟩,List.mem_iff_getElem?.2 ⟨j,hj⟩⟩
section
variable {P:Program} {ops:Array Oper} {Q:Exit→Act→World→Prop} {K:Act→World→Prop} {a:Act} {w:World} {rest:List Oper} {N d:Nat} {L:List (Nat×Value)} {G:GS} {H:List aA}
 {dst:Option Tmp} {ty:TypeId} {pos:String} {af:Array Edge} {g:Option (Nat×Bool)} {x y:Operand}
section
variable {t t2:TypeId} {kd:IntKind} {m n z:Int}
end
theorem Holds.ext {w':World} (h:Holds G w H) (hb:Below w.heap.size w w'):Holds G w' H:=
 ⟨hb.os.trans h.os,hb.tape.trans h.tape,hb.output.trans h.output,fun b o hm=>by have:=h.mem b o hm;rw[hb.block b (bu this)];exact this,
  fun p hp=>by have:=h.own p hp;rw[hb.block p.1 (bu this)];exact this,h.nodup,h.apart⟩
theorem Ret.of {f:Nat} {vs:Array Value} {v:Value} {F:List aA} {post:GS→Value→Prop} (h:Holds G w F) (hc:Calls P f vs w fun e w'=>e= .returned v∧Below w.heap.size w w') (hp:post G v):Calls P f vs w (Ret G F post):=
 hc.mono fun _ _ ⟨he,hb⟩=>⟨v,G,he,GS.Le.refl G,h.ext hb,hp⟩
theorem tB (w:World) (k:Nat) (os:Array Obj):Below w.heap.size w (Go.Sort.grow (w.drewN k) os):=
 ⟨rfl,rfl,rfl,by simp[Go.Sort.grow],fun i hi=>by simp only[Go.Sort.grow];exact Array.getElem?_append_left hi⟩
def GVar (P:Program) (name:String) (cs:Array Value) (G:GS):Prop:=∃g T fz,P.globalNamed name=some g∧G.M g=some (.cells cs T fz)
theorem GVar.mono {name:String} {cs:Array Value} {G':GS} (h:GVar P name cs G) (hG:G.Le G'):GVar P name cs G':=by
 obtain⟨g,T,fz,h1,h2⟩:=h
 exact⟨g,T,fz,h1,hG.mem _ _ h2⟩
theorem GVar.var {name:String} {cs:Array Value} (hv:GVar P name cs G) (h:Holds G w H):w.var? P name=some cs:=by
 obtain⟨g,T,fz,h1,h2⟩:=hv
 have:=h.mem _ _ h2
 simp[World.var?,h1,this]
structure RdF {α:Type} (enc:α→List Value) (size:Nat) (M:lh) (ao:Option Addr) (cap:Nat) (l:List α):Prop where
 le:l.length≤cap
 cap:cap≤9223372036854775807
 addr:0<l.length→ao=some ⟨blk ao,ni ao,none⟩
 row:∀i x,l[i]?=some x→MRow M (blk ao) (ni ao+i*size) (enc x)
theorem RdF.mono {α:Type} {enc:α→List Value} {size cap:Nat} {G':GS} {ao:Option Addr} {l:List α} (h:RdF enc size G.M ao cap l) (hG:G.Le G'):RdF enc size G'.M ao cap l:=
 ⟨h.le,h.cap,h.addr,fun i x hx=>(h.row i x hx).mono hG⟩
theorem RdF.nil {α:Type} (enc:α→List Value) (size:Nat) (M:lh) (ao:Option Addr):RdF enc size M ao 0 ([]:List α):=
 ⟨by simp,by omega,fun h=>by simp at h,fun i x h=>by simp at h⟩
theorem MC {α:Type} (enc:α→List Value) (size:Nat) (he:∀x,(enc x).length=size):∀(l:List α) (i:Nat) (x:α),l[i]?=some x→∀j v,(enc x)[j]?=some v→(l.flatMap enc)[i*size+j]?=some v
 |[],i,x,h=>by simp at h
 |y::l,0,x,h=>by
  simp only[List.getElem?_cons_zero,acU]at h
  subst h
  intro j v hv
  simp only[Nat.zero_mul,Nat.zero_add,List.flatMap_cons]
  rw[List.getElem?_append_left (List.getElem?_eq_some_iff.1 hv).1]
  exact hv
 |y::l,i+1,x,h=>by
  intro j v hv
  have:=MC enc size he l i x (by simpa using h) j v hv
  simp only[List.flatMap_cons]
  rw[List.getElem?_append_right (by rw[he];rw[Nat.add_mul];omega),he,show(i+1)*size+j - size=i*size+j by rw[Nat.add_mul];omega]
  exact this
theorem Row.toG {α:Type} {enc:α→List Value} {E size n cap:Nat} {ao:Option Addr} {l:List α} {c:aA} (he:∀x,(enc x).length=size) (r:Row E size ao n cap (l.flatMap enc) c) (hn:l.length=n) (h:Holds G w (c::H)):
  ∃G',G.Le G'∧Holds G' w H∧RdF enc size G'.M ao cap l:=by
 obtain⟨h1,h2,h3⟩:=h.toG
 refine⟨_,h1,h2,?_⟩
 subst hn
 rcases r.form with⟨rfl,h4,rfl,rfl⟩|⟨g,cur,rfl,rfl,h4,h5,h6,h7⟩
 ·have:l=[]:=acW h4
  subst this
  exact RdF.nil _ _ _ _
 ·refine⟨h4,h5,fun _=>rfl,fun i x hx j v hv=> ?_⟩
  have hM:=h3 (g,.cells cur E (0,0)) (by simp)
  simp only at hM
  simp only[blk,ni,gR,hM,Nat.zero_add]
  have hf:=MC enc size he l i x hx j v hv
  rw[←h7]at hf
  have hlt:i*size+j<l.length*size:=by
   rcases Nat.lt_or_ge (i*size+j) (l.length*size) with h8|h8
   ·exact h8
   ·rw[List.getElem?_take_eq_none h8]at hf;cases hf
  rw[acS hlt]at hf
  simpa using hf
end
end Go.Eng
namespace Go.Eng
open Go Go.RowKit
theorem Holds.nil {G:GS} {w:World} {H:List aA} (h:Holds G w H):Holds G w ([]::H):=h.perm (by simp)
section
variable {P:Program} {ops:Array Oper} {Q:Exit→Act→World→Prop} {a:Act} {w:World} {rest:List Oper} {N d:Nat} {L:List (Nat×Value)} {G:GS} {F:List aA} {ty:TypeId} {pos:String} {af:Array Edge}
def lw (P:Program) (E size bytes:Nat):Bool:=match P.info? E with
 |some i=>match i.zero with
  |some z=>Nat.beq i.size size&&Nat.beq z.cells.size size&&Nat.beq i.bytes bytes&&Nat.blt 0 size
  |none=>false
 |none=>false
theorem mU {E size bytes:Nat} (h:lw P E size bytes=true):∃i z,P.info? E=some i∧i.zero=some z∧i.size=size∧z.cells.size=size∧i.bytes=bytes∧0<size:=by
 unfold lw at h
 rcases hi:P.info? E with _|i
 ·simp[hi]at h
 ·rcases hz:i.zero with _|z
  ·simp[hi,hz]at h
  ·simp only[hi,hz,acT,acZ]at h
   exact⟨i,z,rfl,hz,acE h.1.1.1,acE h.1.1.2,acE h.1.2,h.2⟩
end
end Go.Eng
namespace Go.Eng
open Go Go.RowKit
section
variable {P:Program} {Q:Exit→Act→World→Prop} {K:Act→World→Prop} {a:Act} {w:World} {dst:Option Tmp} {ty:TypeId} {pos:String} {af:Array Edge} {g:Option (Nat×Bool)} {x y:Operand} {kd:IntKind} {m n z:Int}
end
end Go.Eng
namespace Go.Eng
open Go Go.RowKit
section
variable {P:Program} {Q:Exit→Act→World→Prop} {K:Act→World→Prop} {a:Act} {w:World} {dst:Option Tmp} {ty:TypeId} {pos:String} {af:Array Edge} {g:Option (Nat×Bool)} {x y:Operand}
end
end Go.Eng
namespace Go.Eng
open Go Go.RowKit Go.Lib
abbrev u8 (x:UInt8):Value:=.int .u8 x.toNat
def BuildC (T b:Nat) (l:List UInt8) (c:aA):Prop:=
 ∃p ao cap cr,(p= .pointer none∨p= .pointer (some ⟨b,0,none⟩))∧Row 5 1 ao l.length cap (l.map u8) cr∧(l=[]→ao=none)∧c=(b,.cells #[p,.slice ao l.length cap] T (0,0))::cr
theorem BuildC.new (T b:Nat):BuildC T b [] [(b,.cells #[.pointer none,.slice none 0 0] T (0,0))]:=
 ⟨_,none,0,[],.inl rfl,Row.nil 5 1,fun _=>rfl,rfl⟩
theorem Holds.split {G:GS} {w:World} {x:Nat×Obj} {c:aA} {F:List aA} (h:Holds G w ((x::c)::F)):Holds G w ([x]::c::F):=h.perm (by simp)
theorem Holds.join {G:GS} {w:World} {x:Nat×Obj} {c:aA} {F:List aA} (h:Holds G w ([x]::c::F)):Holds G w ((x::c)::F):=h.perm (by simp)
theorem Holds.shapeI {G:GS} {w:World} {H:List aA} (h:Holds G w H) (i j:Nat) {c0:aA} {b:Nat} {c:Array Value} {T:TypeId} {fz:Nat×Nat} (hi:H[i]?=some c0) (hj:c0[j]?=some (b,.cells c T fz)):w.shape? b=some (T,c.size):=by
 have:=h.own _ (aaN i j hi hj)
 simp only at this
 simp[World.shape?,this]
section
variable {P:Program} {ops:Array Oper} {Q:Exit→Act→World→Prop} {K:Act→World→Prop} {a:Act} {w:World} {rest:List Oper} {N d:Nat} {L:List (Nat×Value)} {G:GS} {F:List aA}
 {dst:Option Tmp} {ty:TypeId} {pos:String} {af:Array Edge} {g:Option (Nat×Bool)} {x y:Operand}
theorem Od {T U t e n cells b o:Nat} (hx:a.eval x= .pointer (some ⟨b,o,none⟩)) (hT:P.underlying T=some (.pointer t)) (hU:P.underlying U=some .unsafePointer) (hs:szOf P t=some n) (hn:Nat.blt 0 n=true)
  (hsh:w.shape? b=some (e,cells)) (ho:Nat.blt o cells=true) (k:K (a.put dst (.pointer (some ⟨b,o,none⟩))) w):Oper.wp P ⟨dst,.convert T U x,ty,pos,af,g⟩ a w K Q:=by
 refine ga ?_ k
 unfold szOf at hs
 rcases hi:P.info? t with _|j
 ·simp[hi]at hs
 simp only[hi,Option.map_some,acU]at hs
 rw[acZ]at hn ho
 have:=Lib.run_to_unsafe (P:=P) w (src:=T) (dst:=U) ⟨b,o,none⟩ hT hU hi (by omega) hsh ho
 simp[execOp,hx,this]
theorem Ib {T U u e cells b o:Nat} (hx:a.eval x= .pointer (some ⟨b,o,none⟩)) (hT:P.underlying T=some .unsafePointer) (hU:P.underlying U=some (.pointer u)) (hs:(P.info? u).isSome=true)
  (hsh:w.shape? b=some (e,cells)) (hl:liesAt P P.depth e (cells / P.cellsOf e) o u 1=true) (k:K (a.put dst (.pointer (some ⟨b,o,none⟩))) w):Oper.wp P ⟨dst,.convert T U x,ty,pos,af,g⟩ a w K Q:=by
 refine ga ?_ k
 obtain⟨j,hj⟩:=Option.isSome_iff_exists.1 hs
 have:=Lib.run_from_unsafe (P:=P) w (src:=T) (dst:=U) ⟨b,o,none⟩ hT hU hj hsh hl
 simp[execOp,hx,this]
theorem Of {f:Nat} {fn:Func} {v:Value} {ta:Array TypeId} (hx:a.eval x=v) (hf:P.funcs[f]?=some fn) (h1:(fn.name== "runtime.NumGoroutine")=false) (h2:fn.body.isNone=true) (h3:Extern.findNext fn=none) (h4:Extern.find fn=some Extern.AbiNoEscape.same)
  (k:K (a.put dst v) w):Oper.wp P ⟨dst,.call {callee:=.value (.func f),args:= #[x],argTypes:=ta},ty,pos,af,g⟩ a w K Q:=by
 refine ga ?_ k
 have e:a.eval (.func f)= .func (.func f) #[] #[]:=rfl
 simp only[execOp,resolve,e,Deferred.ofValue,invoke,acN,Sem.run_pure,acM,List.map_toArray,acH,List.map_nil,hx]
 have:=run_callFunc_extern (P:=P) hf h1 h2 h3 h4 #[v] w
 simp only[Array.append_empty,Array.empty_append]
 rw[this,Lib.run_noEscape]
 rfl
theorem Oe {T e t2 n b o:Nat} (hx:a.eval x= .pointer (some ⟨b,o,none⟩)) (hy:a.eval y= .pointer (some ⟨b,o,none⟩)) (hT:P.underlying T=some (.pointer e)) (hs:szOf P e=some n) (hn:Nat.blt 0 n=true)
  (k:K (a.put dst (.bool false)) w):Oper.wp P ⟨dst,.binOp .neq T x y t2,ty,pos,af,g⟩ a w K Q:=by
 refine ga ?_ k
 rw[acZ]at hn
 have hne:¬n=0:=by omega
 have e:∀d,(Op.equalIn (d+1) T (.pointer (some ⟨b,o,none⟩)) (.pointer (some ⟨b,o,none⟩))).run P w= .ok true w:=by
  intro d
  simp[Op.equalIn,run_underlying hT,run_sizeOf hs,hne,sameAddr]
 have e2:(Op.equal T (.pointer (some ⟨b,o,none⟩)) (.pointer (some ⟨b,o,none⟩))).run P w= .ok true w:=e 9999
 simp[execOp,hx,hy,eqGuard,binOp,e2]
theorem KT {E n cap:Nat} {ao:Option Addr} {xs:List Value} {c:aA} {l:List UInt8} (r:Row E 1 ao n cap xs c) (h:Holds G w (c::F)) {t u ty:TypeId} (ht:P.underlying t=some (.slice E)) (hu:P.underlying u=some .string)
  {i:TypeInfo} (hi:P.info? E=some i) (hz:i.zero=some (.int .u8 0)) (hsize:i.size=1) (hby:i.bytes=1) (hb:n+l.length≤140737488355328):
  ∃ao' cap' c' w',(Builtin.append_ #[t,u] ty #[.slice ao n cap,S l]).run P w= .ok (.slice ao' (n+l.length) cap') w'∧Row E 1 ao' (n+l.length) cap' (xs++l.map u8) c'∧Holds G w' (c'::F)∧(ao'=none↔ao=none∧l=[]):=by
 have hs:ByteArray.size ⟨l.toArray⟩=l.length:=by simp[ByteArray.size]
 have hcells:strCells ⟨l.toArray⟩=l.map u8:=by simp[strCells]
 obtain⟨v',w',hrun,hown,hgrow,hnil⟩:=run_append_own_string (P:=P) w 0 t u ty E i ht hu hi hz hsize hby (.slice ao n cap) n xs (r.owns h) ⟨l.toArray⟩ (by rw[hs];unfold maxLen;omega) (by rw[hs];exact hb) (Nat.zero_le _)
 rw[hs,hcells]at hown
 rw[hs]at hnil
 have hrow:∀g,(Value.slice ao n cap).ownBlock=some g→g∈c.map (·.1):=by
  intro g hg
  rcases r.form with⟨rfl,rfl,rfl,rfl⟩|⟨g',cur,rfl,rfl,_⟩
  ·simp[Value.ownBlock]at hg
  ·simp[Value.ownBlock]at hg;subst hg;simp
 rcases hown.2 with⟨rfl,hz0⟩|⟨g,cap',cur,rfl,_,hheap,h2,h3,h4,h5⟩
 ·obtain⟨hv,hm0⟩:=hnil.1 rfl
  injection hv with e1 e2 e3
  subst e1;subst e2;subst e3
  have hl:l=[]:=acW hm0
  subst hl
  rcases r.form with⟨_,_,_,rfl⟩|⟨g,cur,hc,_⟩
  ·refine⟨none,0,[],w',hrun,⟨hown.1,.inl ⟨rfl,rfl,rfl,rfl⟩⟩,?_,by simp⟩
   have:∀b,b<w.heap.size→w'.heap[b]?=w.heap[b]?:=fun b hb=>hgrow.block b hb (by simp[Value.ownBlock])
   exact h.turn hgrow.os hgrow.tape hgrow.output rfl (fun b hb _=>this b hb) (fun p hp=>by simp at hp)
  ·cases hc
 ·refine⟨some ⟨g,0,none⟩,cap',[(g,.cells cur E (0,0))],w',hrun,⟨hown.1,.inr ⟨g,cur,rfl,rfl,h2,h3,h4,h5⟩⟩,?_,?_⟩
  ·refine h.regrow hgrow hrow hheap ?_
   rcases r.form with⟨rfl,rfl,rfl,rfl⟩|⟨g0,cur0,rfl,rfl,k1,k2,k3,k4⟩
   ·by_cases hl0:l.length=0
    ·have:=hnil.2 ⟨rfl,hl0⟩
     cases this
    ·have hr:=run_append_nil_string (P:=P) w t u ty E i (.int .u8 0) ht hu hi hz ⟨l.toArray⟩ (by rw[hs];omega) (by rw[hs];omega) (by rw[hby,hs];omega)
     rw[hr]at hrun
     injection hrun with e1 e2
     injection e1 with e1
     injection e1 with e1
     injection e1 with e1
     exact .inr (by omega)
   ·have hg0:w.heap[g0]?=some (.cells cur0 E (0,0)):=h.own (g0,.cells cur0 E (0,0)) (by simp)
    by_cases hroom:n+l.length≤cap
    ·have hr:=run_append_room_string (P:=P) w t u ty E i ht hu hi hsize g0 n cap cur0 hg0 ⟨l.toArray⟩ (by rw[hs];exact hroom) (by rw[hs];omega)
     rw[hr]at hrun
     injection hrun with e1 e2
     injection e1 with e1
     injection e1 with e1
     injection e1 with e1
     exact .inl (by simp[Value.ownBlock,e1])
    ·have hx':∀j v,xs[j]?=some v→w.cell? ((⟨g0,0,none⟩:Addr).add j)=some v:=(r.owns h).cells (g:=g0) rfl
     have hr:=run_append_grow_string (P:=P) w t u ty E i (.int .u8 0) ht hu hi hz ⟨g0,0,none⟩ n cap xs (by rw[hsize];exact r.len) hx' ⟨l.toArray⟩ (by rw[hs];omega) (by rw[hs];omega)
      (by rw[hby,hs];exact growslice_fits (by omega) (by omega))
     rw[hr]at hrun
     injection hrun with e1 e2
     injection e1 with e1
     injection e1 with e1
     injection e1 with e1
     exact .inr (by omega)
  ·constructor
   ·intro e;cases e
   ·rintro⟨rfl,rfl⟩
    have hz0:n=0∧cap=0:=by
     rcases r.form with⟨_,h0,h1,_⟩|⟨g',cur',hc,_⟩
     ·exact⟨h0,h1⟩
     ·cases hc
    obtain⟨rfl,rfl⟩:=hz0
    have:=hnil.2 ⟨rfl,rfl⟩
    cases this
end
end Go.Eng
namespace Go.Eng
open Go Go.RowKit Go.Lib
section
variable {P:Program} {ops:Array Oper} {Q:Exit→Act→World→Prop} {K:Act→World→Prop} {a:Act} {w:World} {rest:List Oper} {N d:Nat} {L:List (Nat×Value)} {G:GS} {F:List aA}
 {dst:Option Tmp} {ty:TypeId} {pos:String} {af:Array Edge} {g:Option (Nat×Bool)} {x y:Operand}
theorem VA {f:Nat} {xs:List Operand} {vs:List Value} {ta:Array TypeId} {post:GS→Value→aA→Prop} (s:SF N a L) (hv:AZ L xs=some vs) (hf:xz P f=some (false,false)) (hd:Nat.blt d N=true)
  (hc:Calls P f vs.toArray w (OZ G F post)) (k:∀a' w' v G' c',G.Le G'→Holds G' w' (c'::F)→post G' v c'→SF N a' ((d,v)::L)→wpList P ops Q rest a' w'):
  wpList P ops Q (⟨some d,.call {callee:=.value (.func f),args:=xs.toArray,argTypes:=ta},ty,pos,af,none⟩::rest) a w:=
 wl rfl (aay s hv hf hc (fun _ w' ⟨v,G',c',he,hG,hh,hp⟩=>⟨v,he,k _ w' v G' c' hG hh hp (s.put d hd v)⟩))
theorem PX {E n cap:Nat} {ao:Option Addr} {xs:List Value} {c:aA} {l:List UInt8} {t u:TypeId} (s:SF N a L) (hd:Nat.blt d N=true) (r:Row E 1 ao n cap xs c) (h:Holds G w (c::F))
  (hx:wt L x=some (.slice ao n cap)) (hy:wt L y=some (S l)) (ht:P.underlying t=some (.slice E)) (hu:P.underlying u=some .string) (he:lw P E 1 1=true) (hz:(P.info? E).bind (fun i=>i.zero)=some (.int .u8 0)) (hb:n+l.length≤140737488355328)
  (k:∀a' w' ao' cap' c',SF N a' ((d,.slice ao' (n+l.length) cap')::L)→Row E 1 ao' (n+l.length) cap' (xs++l.map u8) c'→Holds G w' (c'::F)→(ao'=none↔ao=none∧l=[])→wpList P ops Q rest a' w'):
  wpList P ops Q (⟨some d,.call {callee:=.builtin .append,args:= #[x,y],argTypes:= #[t,u]},ty,pos,af,none⟩::rest) a w:=by
 obtain⟨i,z,hi,hz',e1,e2,e3,e4⟩:=mU he
 have hz0:i.zero=some (.int .u8 0):=by simpa[hi] using hz
 obtain⟨ao',cap',c',w',hrun,hr,hh,hn⟩:=KT (P:=P) (ty:=ty) r h ht hu hi hz0 e1 e3 hb
 refine wl rfl (ga (v:=.slice ao' (n+l.length) cap') (w':=w') ?_ (k _ _ _ _ _ (s.put d hd _) hr hh hn))
 rw[du]
 simp only[builtin,List.map_toArray,acH,List.map_nil,s.ev hx,s.ev hy,acN,hrun]
 rfl
end
end Go.Eng
namespace Go.Eng
open Go Go.RowKit Go.Lib
theorem Holds.frozen {G:GS} {w:World} {c:aA} {F:List aA} (h:Holds G w (c::F)) {b n:Nat} (hb:b∈c.map (·.1)):Holds G (w.freeze ⟨b,0,none⟩ n) F:=by
 have hf:=h.drop
 have hn:=h.nodup
 simp only[acG,acO]at hn
 have hd:=(List.nodup_append.1 hn).2.2
 have hk:∀k,k≠b→(w.freeze ⟨b,0,none⟩ n).heap[k]?=w.heap[k]?:=by
  intro k hk
  unfold World.freeze
  split
  ·rfl
  ·simp only[Array.getElem?_modify]
   rw[if_neg (fun e=>hk e.symm)]
 have hs:(w.freeze ⟨b,0,none⟩ n).os=w.os∧(w.freeze ⟨b,0,none⟩ n).tape=w.tape∧(w.freeze ⟨b,0,none⟩ n).output=w.output:=by
  unfold World.freeze
  split<;>exact⟨rfl,rfl,rfl⟩
 refine⟨hs.1.trans h.os,hs.2.1.trans h.tape,hs.2.2.trans h.output,fun k o hm=> ?_,fun p hp=> ?_,hf.nodup,hf.apart⟩
 ·rw[hk k]
  ·exact h.mem k o hm
  ·rintro rfl
   obtain⟨q,hq,rfl⟩:=List.mem_map.1 hb
   have:=h.apart q (by simp only[acG,acP];exact .inl hq)
   rw[this]at hm;cases hm
 ·rw[hk p.1]
  ·exact hf.own p hp
  ·intro e
   exact hd b hb _ (List.mem_map_of_mem hp) e.symm
section
variable {P:Program} {Q:Exit→Act→World→Prop} {K:Act→World→Prop} {a:Act} {w:World} {G:GS} {F:List aA}
 {dst:Option Tmp} {ty:TypeId} {pos:String} {af:Array Edge} {g:Option (Nat×Bool)} {x y:Operand}
theorem KU {n c b:Nat} {ta:Array TypeId} (hx:a.eval x= .slice (some ⟨b,0,none⟩) n c) (hc:c≠0) (k:K (a.put dst (.pointer (some ⟨b,0,none⟩))) w):
  Oper.wp P ⟨dst,.call {callee:=.builtin .unsafeSliceData,args:= #[x],argTypes:=ta},ty,pos,af,g⟩ a w K Q:=by
 refine ga ?_ k
 rw[du]
 have:=run_unsafeSliceData_row (P:=P) (w:=w) ta ty ⟨b,0,none⟩ n c hc
 simp only[builtin,List.map_toArray,acH,List.map_nil,hx,acN,this]
 rfl
theorem Ia {n c:Nat} {ta:Array TypeId} (hx:a.eval x= .slice none n c) (k:K (a.put dst (.pointer none)) w):
  Oper.wp P ⟨dst,.call {callee:=.builtin .unsafeSliceData,args:= #[x],argTypes:=ta},ty,pos,af,g⟩ a w K Q:=by
 refine ga ?_ k
 rw[du]
 have:=run_unsafeSliceData_nil (P:=P) (w:=w) ta ty n c
 simp only[builtin,List.map_toArray,acH,List.map_nil,hx,acN,this]
 rfl
theorem Cz {p it:TypeId} (hx:a.eval x= .pointer none) (hy:a.eval y= .int .i64 0) (k:K (a.put dst (S [])) w):
  Oper.wp P ⟨dst,.call {callee:=.builtin .unsafeString,args:= #[x,y],argTypes:= #[p,it]},ty,pos,af,g⟩ a w K Q:=by
 refine ga ?_ k
 rw[du]
 have:=run_unsafeString_none (P:=P) (w:=w) p it ty none
 simp only[builtin,List.map_toArray,acH,List.map_nil,hx,hy,acN,this]
 rfl
theorem Ek {p it e b cap:Nat} {l:List UInt8} {c:aA} {z:Int} (h:Holds G w (c::F)) (r:Row e 1 (some ⟨b,0,none⟩) l.length cap (l.map u8) c) (hx:a.eval x= .pointer (some ⟨b,0,none⟩)) (hy:a.eval y= .int .i64 z) (hz:z=(l.length:Int))
  (hp:P.underlying p=some (.pointer e)) (hc:P.cellsOf e=1) (h0:l≠[]) (k:∀w',Holds G w' F→K (a.put dst (S l)) w'):
  Oper.wp P ⟨dst,.call {callee:=.builtin .unsafeString,args:= #[x,y],argTypes:= #[p,it]},ty,pos,af,g⟩ a w K Q:=by
 subst hz
 rcases r.form with⟨h1,_⟩|⟨g0,cur,h1,rfl,h2,h3,h4,h5⟩
 ·cases h1
 injection h1 with h1
 injection h1 with h1
 subst h1
 have hown:=h.own (b,.cells cur e (0,0)) (by simp)
 simp only at hown
 have hm:maxLen=9223372036854775807:=rfl
 have hcell:∀j x,l[j]?=some x→w.cell? ((⟨b,0,none⟩:Addr).add j)=some (.int .u8 x.toNat):=by
  intro j x hj
  rw[da]
  have hlt:=(List.getElem?_eq_some_iff.1 hj).1
  have:(l.map u8)[j]?=some (u8 x):=by simp[hj]
  rw[←h5,Nat.mul_one,acS hlt]at this
  simp only[World.cell?,hown,Nat.zero_add]
  simpa using this
 have:=run_unsafeString_row (P:=P) (w:=w) p it ty e hp hc b cur.size (by simp[World.shape?,hown]) l h0 (by omega) (by omega) hcell
 refine ga (w':=w.freeze ⟨b,0,none⟩ l.length) ?_ (k _ (h.frozen (by simp)))
 rw[du]
 simp only[builtin,List.map_toArray,acH,List.map_nil,hx,hy,acN,this]
 rfl
end
end Go.Eng
namespace Go.Eng
open Go Go.RowKit
theorem Holds.dropsnd {G:GS} {w:World} {c d:aA} {F:List aA} (h:Holds G w (c::d::F)):Holds G w (c::F):=(h.front 1 rfl).drop
end Go.Eng
namespace Go.Eng
open Go Go.RowKit
abbrev AMap (κ:Type):=List (κ×Value)
def AMap.at_ {κ:Type} [DecidableEq κ] (m:AMap κ) (k:κ):Option Value:=match m with
 |[]=>none
 |p::m=>if k=p.1 then some p.2 else AMap.at_ m k
def AMap.put {κ:Type} [DecidableEq κ] (m:AMap κ) (k:κ) (v:Value):AMap κ:=match m with
 |[]=>[(k,v)]
 |p::m=>if k=p.1 then (k,v)::m else p::AMap.put m k v
structure acy {κ:Type} (ok:κ→Prop) (enc:κ→Value) (m:AMap κ) (es:Array MapEntry):Prop where
 ents:es.toList.map (fun e=>(e.key,e.val))=m.map (fun p=>(enc p.1,p.2))
 keys:∀p∈m,ok p.1
def MapC {κ:Type} (ok:κ→Prop) (enc:κ→Value) (m:AMap κ) (b:Nat) (c:aA):Prop:=∃es clock,c=[(b,.map es clock)]∧acy ok enc m es
section
variable {P:Program} {Q:Exit→Act→World→Prop} {K:Act→World→Prop} {a:Act} {w:World} {dst:Option Tmp} {ty:TypeId} {pos:String} {af:Array Edge} {g:Option (Nat×Bool)} {x y z:Operand} {G:GS} {F H:List aA}
variable {κ:Type} [DecidableEq κ] {okk:κ→Prop} {enc:κ→Value} {kt:TypeId} {m:AMap κ}
omit [DecidableEq κ] in
theorem MapC.new (ok:κ→Prop) (enc:κ→Value) (b:Nat):MapC ok enc [] b [(b,.map #[] 0)]:=⟨#[],0,rfl,by simp,by simp⟩
end
def am:List (Option Bool)→Option Bool
 |[]=>some true
 |[x]=>x
 |x::r=>match x,am r with
  |some a,some b=>some (a&&b)
  |_,_=>none
section
variable {P:Program} {w:World}
end
end Go.Eng
namespace Go.Eng
open Go Go.RowKit
section
variable {P:Program} {ops:Array Oper} {Q:Exit→Act→World→Prop} {K:Act→World→Prop} {a:Act} {w:World} {rest:List Oper} {dst:Option Tmp} {ty:TypeId} {pos:String} {af:Array Edge} {g:Option (Nat×Bool)} {x y z:Operand} {G:GS} {F H:List aA} {N:Nat} {L:List (Nat×Value)} {d:Nat}
theorem Row.addr {E size n cap:Nat} {ao:Option Addr} {xs:List Value} {c:aA} (r:Row E size ao n cap xs c) (h:0<n):ao=some ⟨blk ao,ni ao,none⟩:=by
 rcases r.form with⟨_,h2,_,_⟩|⟨g,cur,rfl,_⟩
 ·omega
 ·rfl
theorem Row.rowI {E size n cap:Nat} {ao:Option Addr} {xs:List Value} {c:aA} (r:Row E size ao n cap xs c) (h:Holds G w H) (i:Nat) (hi:H[i]?=some c) {cs:List Value} {o:Nat} (hd:(xs.drop o).take cs.length=cs):
  ∀j v,cs[j]?=some v→w.cell? ⟨blk ao,ni ao+o+j,none⟩=some v:=by
 intro j v hv
 have hx:xs[o+j]?=some v:=by
  rw[←hd]at hv
  have hlt:j<cs.length:=by
   rw[←hd]
   exact(List.getElem?_eq_some_iff.1 hv).1
  rw[acS hlt]at hv
  simpa using hv
 rcases r.form with⟨_,h2,_,_⟩|⟨g,cur,rfl,rfl,h4,h5,h6,h7⟩
 ·have h1:=r.len
  rw[h2]at h1
  have:xs=[]:=acW (by omega)
  rw[this]at hx;cases hx
 ·refine h.cellO (c:=cur) (T:=E) (fz:=(0,0)) (List.mem_flatten.2 ⟨_,acF hi,by simp[blk]⟩) ?_
  rw[←h7]at hx
  have hlt:o+j<n*size:=by
   rcases Nat.lt_or_ge (o+j) (n*size) with h8|h8
   ·exact h8
   ·rw[List.getElem?_take_eq_none h8]at hx;cases hx
  rw[acS hlt]at hx
  simpa[ni,Nat.add_assoc] using hx
end
abbrev I64 (n:Int):Prop:= -9223372036854775808≤n∧n≤9223372036854775807
abbrev U8 (n:Int):Prop:=0≤n∧n≤255
abbrev U16 (n:Int):Prop:=0≤n∧n≤65535
abbrev U32 (n:Int):Prop:=0≤n∧n≤4294967295
structure Proc where
 node:Int
 life:Int
 deriving DecidableEq
structure Step where
 group:Int
 index:Int
 deriving DecidableEq
structure ID where
 client:Proc
 seq:Int
 depth:Int
 p0:Step
 p1:Step
 p2:Step
 deriving DecidableEq
structure Fault where
 kind:Int
 id:ID
 group:Int
 at_:Int
abbrev Proc.ok (p:Proc):Prop:=U8 p.node∧U16 p.life
abbrev Step.ok (p:Step):Prop:=U8 p.group∧U8 p.index
abbrev ID.ok (d:ID):Prop:=d.client.ok∧U32 d.seq∧U8 d.depth∧d.p0.ok∧d.p1.ok∧d.p2.ok
abbrev Fault.ok (f:Fault):Prop:=I64 f.kind∧f.id.ok∧U8 f.group∧I64 f.at_
end Go.Eng
namespace Go.Eng
open Go Go.RowKit
end Go.Eng
namespace Go.Eng
open Go Go.RowKit
theorem WT (a:Addr) (i j:Nat):(a.add i).add j=a.add (i+j):=by
 unfold Addr.add
 by_cases hi:i=0<;>by_cases hj:j=0<;>simp[hi,hj,Nat.add_assoc]
theorem zm {α:Type} {p:Nat→α→Prop}:∀n,(∀i,i<n→∃x,p i x)→∃l:List α,l.length=n∧∀i x,l[i]?=some x→p i x
 |0,_=>⟨[],rfl,fun i x h=>by simp at h⟩
 |n+1,h=>by
  obtain⟨l,h1,h2⟩:=zm n fun i hi=>h i (by omega)
  obtain⟨x,hx⟩:=h n (by omega)
  refine⟨l++[x],by simp[h1],fun i y hy=> ?_⟩
  rcases Nat.lt_or_ge i n with hi|hi
  ·rw[List.getElem?_append_left (by omega)]at hy
   exact h2 i y hy
  ·rw[List.getElem?_append_right (by omega)]at hy
   have:i - l.length=0:=by
    rcases Nat.eq_zero_or_pos (i - l.length) with h0|h0
    ·exact h0
    ·rw[List.getElem?_eq_none (by simp;omega)]at hy;cases hy
   rw[this]at hy
   simp only[List.getElem?_cons_zero,acU]at hy
   subst hy
   have:i=n:=by omega
   subst this
   exact hx
def qv (P:Program) (L:TypeId→Option (List TypeId)):List (TypeId×Nat)→Nat→Option (List TypeId)
 |[],_=>some []
 |(t,o)::r,off=>bif Nat.beq o off then (L t).bind fun a=>bif Nat.beq a.length (P.cellsOf t) then (qv P L r (off+a.length)).map (a++ ·) else none else none
def kR (P:Program):Nat→TypeId→Option (List TypeId)
 |0,_=>none
 |n+1,t=>match P.underlying t with
  |some (.struct fs)=>(qv P (kR P n) (fs.toList.map fun f=>(f.type,f.offset)) 0).bind fun ts=>bif Nat.beq ts.length (P.cellsOf t) then some ts else none
  |some (.array m e)=>(qv P (kR P n) ((List.range m).map fun i=>(e,i*P.cellsOf e)) 0).bind fun ts=>bif Nat.beq ts.length (P.cellsOf t) then some ts else none
  |some _=>some [t]
  |none=>none
section
variable {H:Type} {enc:TypeId×Value→H} {P:Program} {w:World} {base:Nat} {spare:Nat→Bool} {held:Bool}
theorem uU {n m:Nat} {cs:List Value} (ih:∀t ts,kR P n t=some ts→∀cs x,DataW.trod enc P w base spare held m t cs=some x→cs.length=ts.length∧∀(j:Nat) (u:TypeId) (c:Value),ts[j]?=some u→cs[j]?=some c→∃k y,DataW.trod enc P w base spare held k u [c]=some y):
  ∀(l:List (TypeId×Nat)) (off:Nat) (ts:List TypeId),qv P (kR P n) l off=some ts→(∀p∈l,∃x,DataW.trod enc P w base spare held m p.1 ((cs.drop p.2).take (P.cellsOf p.1))=some x)→
   ∀(j:Nat) (u:TypeId) (c:Value),ts[j]?=some u→cs[off+j]?=some c→∃k y,DataW.trod enc P w base spare held k u [c]=some y
 |[],off,ts,h,_,j,u,c,hu,_=>by
  simp only[qv,acU]at h
  subst h;simp at hu
 |(t,o)::r,off,ts,h,hall,j,u,c,hu,hc=>by
  simp only[qv]at h
  cases ho:Nat.beq o off with
  |false=>simp[ho]at h
  |true=>
   have ho:=acE ho
   subst ho
   rcases hL:kR P n t with _|a
   ·simp[hL]at h
   ·cases hl:Nat.beq a.length (P.cellsOf t) with
    |false=>simp[hL,hl]at h
    |true=>
     rcases hr:qv P (kR P n) r (o+a.length) with _|b
     ·simp[hL,hl,hr]at h
     ·simp only[Nat.beq_refl,cond_true,hL,Option.bind_some,hl,hr,Option.map_some,acU]at h
      have hl:=acE hl
      subst h
      rcases Nat.lt_or_ge j a.length with hj|hj
      ·rw[List.getElem?_append_left hj]at hu
       obtain⟨x,hx⟩:=hall (t,o) (by simp)
       refine(ih t a hL _ x hx).2 j u c hu ?_
       rw[acS (by rw[←hl];exact hj),List.getElem?_drop]
       exact hc
      ·rw[List.getElem?_append_right hj]at hu
       refine uU ih r (o+a.length) b hr (fun p hp=>hall p (by simp[hp])) (j - a.length) u c hu ?_
       rw[show o+a.length+(j - a.length)=o+j by omega]
       exact hc
theorem pA:∀(n:Nat) (t:TypeId) (ts:List TypeId),kR P n t=some ts→∀(m:Nat) (cs:List Value) x,DataW.trod enc P w base spare held m t cs=some x→
  cs.length=ts.length∧∀(j:Nat) (u:TypeId) (c:Value),ts[j]?=some u→cs[j]?=some c→∃k y,DataW.trod enc P w base spare held k u [c]=some y:=by
 intro n
 induction n with
 |zero=>intro t ts h;simp[kR]at h
 |succ n ih=>
  intro t ts h m cs x hx
  unfold kR at h
  split at h
  ·rename_i fs hu
   obtain⟨ts',hp,hb⟩:=Option.bind_eq_some_iff.1 h
   cases hl:Nat.beq ts'.length (P.cellsOf t) with
   |false=>simp[hl]at hb
   |true=>
    simp only[hl,cond_true,acU]at hb
    subst hb
    have hl:=acE hl
    cases m with
    |zero=>simp[DataW.trod]at hx
    |succ m=>
     simp only[DataW.trod,hu]at hx
     split at hx
     ·rename_i hlen
      obtain⟨xs,hm,_⟩:=acL.1 hx
      refine⟨by omega,fun j u c hju hc=>uU (cs:=cs) (n:=n) (m:=m) (fun t ts h cs x hx=>ih t ts h m cs x hx) _ 0 _ hp (fun p hp=> ?_) j u c hju (by simpa using hc)⟩
      obtain⟨f,hf,rfl⟩:=List.mem_map.1 hp
      obtain⟨i,hi⟩:=List.mem_iff_getElem?.1 hf
      obtain⟨b,_,hb⟩:=Lib.mapM_at hm i f hi
      exact⟨b,hb⟩
     ·cases hx
  ·rename_i k e hu
   obtain⟨ts',hp,hb⟩:=Option.bind_eq_some_iff.1 h
   cases hl:Nat.beq ts'.length (P.cellsOf t) with
   |false=>simp[hl]at hb
   |true=>
    simp only[hl,cond_true,acU]at hb
    subst hb
    have hl:=acE hl
    cases m with
    |zero=>simp[DataW.trod]at hx
    |succ m=>
     simp only[DataW.trod,hu]at hx
     split at hx
     ·rename_i hlen
      obtain⟨xs,hm,_⟩:=acL.1 hx
      refine⟨by omega,fun j u c hju hc=>uU (cs:=cs) (n:=n) (m:=m) (fun t ts h cs x hx=>ih t ts h m cs x hx) _ 0 _ hp (fun p hp=> ?_) j u c hju (by simpa using hc)⟩
      obtain⟨i,hi,rfl⟩:=List.mem_map.1 hp
      obtain⟨q,hq⟩:=List.mem_iff_getElem?.1 hi
      have:i=q:=by
       have:=(List.getElem?_eq_some_iff.1 hq)
       obtain⟨h1,h2⟩:=this
       simpa using h2.symm
      subst this
      obtain⟨b,_,hb⟩:=Lib.mapM_at hm i i hq
      exact⟨b,hb⟩
     ·cases hx
  ·rename_i d hns hna hu
   simp only[acU]at h
   subst h
   have h1:cs.length=1:=by
    cases m with
    |zero=>simp[DataW.trod]at hx
    |succ m=>
     unfold DataW.trod at hx
     rw[hu]at hx
     split at hx<;>simp_all
   refine⟨by simpa using h1,fun j u c hju hc=> ?_⟩
   obtain⟨c0,rfl⟩:=List.length_eq_one_iff.1 h1
   have hj:j=0:=by
    rcases j with _|j
    ·rfl
    ·simp at hju
   subst hj
   simp only[List.getElem?_cons_zero,acU]at hju hc
   subst hju;subst hc
   exact⟨m,x,hx⟩
  ·cases h
theorem cZ {u:TypeId} {k:IntKind} {c:Value} (hu:P.underlying u=some (.int k)) (h:∃n y,DataW.trod enc P w base spare held n u [c]=some y):∃z,c= .int k z∧(Lit.int k z).wf=true:=by
 obtain⟨n,y,h⟩:=h
 obtain⟨z,hc,_,hw⟩:=DataW.trod_int hu h
 simp only[List.cons.injEq,and_true]at hc
 exact⟨z,hc,hw⟩
theorem IR {u:TypeId} {c:Value} (hu:P.underlying u=some .string) (h:∃n y,DataW.trod enc P w base spare held n u [c]=some y):∃l:List UInt8,c=S l∧l.length≤maxLen:=by
 obtain⟨n,y,h⟩:=h
 cases n with
 |zero=>simp[DataW.trod]at h
 |succ n=>
  unfold DataW.trod at h
  rw[hu]at h
  split at h<;>simp_all
  rename_i s hq
  exact⟨s.data.toList,by simp,by rw[Array.length_toList];exact h.1⟩
theorem QF {u:TypeId} {c:Value} (hu:P.underlying u=some .bool) (h:∃n y,DataW.trod enc P w base spare held n u [c]=some y):∃b,c= .bool b:=by
 obtain⟨n,y,h⟩:=h
 cases n with
 |zero=>simp[DataW.trod]at h
 |succ n=>
  unfold DataW.trod at h
  rw[hu]at h
  split at h<;>simp_all
theorem HJ {α:Type} {en:α→List Value} {size cap:Nat} {a:Addr} {t:List α} (hl:t.length≤cap) (hm:cap≤maxLen) (hs:0<size) (hlen:∀x,(en x).length=size)
  (hp:∀(i:Nat) (x:α),t[i]?=some x→w.cells? base (a.add (i*size)) size=some (en x)):RdF en size (GS.of w).M (some a) cap t:=by
 have hcell:∀(i:Nat) (x:α),t[i]?=some x→∀j v,(en x)[j]?=some v→w.cell? (a.add (i*size+j))=some v:=by
  intro i x hx j v hv
  obtain⟨_,_,h⟩:=World.cells?_some (hp i x hx)
  have hj:j<size:=by rw[←hlen x];exact(List.getElem?_eq_some_iff.1 hv).1
  have h2:=h j hj
  rw[hv,WT]at h2
  exact h2
 have hspot:0<t.length→a=⟨a.block,a.off,none⟩:=by
  intro h0
  have h1:(en t[0])[0]?=some ((en t[0])[0]'(by rw[hlen];exact hs)):=by simp
  have h2:=hcell 0 t[0] (by simp[h0]) 0 _ h1
  have h3:=World.cell?_spot h2
  obtain⟨b,o,sp⟩:=a
  simp only[Nat.zero_mul,Nat.add_zero,Addr.add,if_true]at h3
  subst h3
  rfl
 refine⟨hl,hm,fun h=>congrArg some (hspot h),fun i x hx j v hv=> ?_⟩
 have h0:0<t.length:=by
  have:=(List.getElem?_eq_some_iff.1 hx).1
  omega
 have h:=hcell i x hx j v hv
 rw[hspot h0,da]at h
 simp only[gR,GS.of,blk,ni]
 rw[Nat.add_assoc]
 rcases hh:w.heap[a.block]? with _|o
 ·simp[World.cell?,hh]at h
 ·cases o<;>simp[World.cell?,hh]at h ⊢
  exact h
end
inductive Kd|P|R|E|A
def Q0:Exit→Act→World→Prop:=fun _ _ _=>False
theorem pW:¬LetsOut Q0:=fun⟨_,_,h⟩=>h
section
variable {P:Program} {ops:Array Oper} {a a':Act} {w w':World} {K K':Act→World→Prop} {i j:Nat} {o:Oper}
def op1 (P:Program) (ops:Array Oper) (i:Nat) (K:Act→World→Prop) (a:Act) (w:World):Prop:=wpOp P ops Q0 i K a w
theorem op1.mono (h:op1 P ops i K a w) (hk:∀a w,K a w→K' a w):op1 P ops i K' a w:=wpOp_mono hk h
def sG (ops:Array Oper) (i:Nat):Option Tmp:=(ops[i]?).bind (·.dst)
theorem ck (h:ops[i]?=some o):sG ops i=o.dst:=by simp[sG,h]
def Sh (x:Option Tmp) (a a':Act):Prop:=∃u,a'=a.put x u∨∃d,a'=({a with defers:=d::a.defers}:Act).put x u
theorem kK (a:Act) (x:Option Tmp) (v:Value):(a.put x v).defers=a.defers:=by cases x<;>rfl
theorem AK (a:Act) (x:Option Tmp) (v:Value) (d:Deferred):({(a.put x v) with defers:=d::(a.put x v).defers}:Act)=({a with defers:=d::a.defers}:Act).put x v:=by cases x<;>rfl
structure MW (ops:Array Oper) (x:Option Tmp) (o:Oper):Prop where
 look:∀d,x=some d→d∉o.looksAt ops
 dst:∀d,x=some d→o.dst≠some d
 sel:∀cs b,o.op≠ .select cs b
theorem Bb (hi:ops[i]?=some o) {x:Option Tmp} {v:Value} (f:MW ops x o) (h:op1 P ops i K (a.put x v) w):op1 P ops i (fun a' w'=>K (a'.put x v) w'∧Sh o.dst a a') a w:=by
 unfold op1 wpOp at*
 simp only[hi]at*
 rw[wanted_put o a x v f.look]at h
 split
 ·rename_i hw
  simp only[hw,if_true]at h
  rcases h with h|⟨_,hl⟩
  case inr=>exact absurd hl pW
  refine .inl ?_
  unfold Oper.wp at*
  rw[execOp_put o f.sel a x v f.look]at h
  generalize (execOp a.eval o).run P w=r at*
  have hc:∀u,(a.put o.dst u).put x v=(a.put x v).put o.dst u:=fun u=>(Act.put_comm a v u f.dst).symm
  cases r with
  |ok n w'=>
   cases n<;>simp only[Oper.upon]at h ⊢
   case value u=>exact⟨by rw[hc];exact h,u,.inl rfl⟩
   case skip=>exact⟨by rw[hc];exact h,_,.inl rfl⟩
   case defer d=>
    refine⟨?_,_,.inr ⟨d,rfl⟩⟩
    rw[AK]at h
    rw[←Act.put_comm _ v undef f.dst]
    exact h
   case enter g args=>
    refine Calls.mono h fun e w'' he=> ?_
    cases e with
    |returned u=>exact⟨by rw[hc];exact he,u,.inl rfl⟩
    |panicked c=>exact he
    |outgrown=>exact he
   case row row args=>exact Rows.mono h fun u w'' he=>⟨by rw[hc];exact he,u,.inl rfl⟩
  |halt y w'=>cases y<;>simp only[Oper.upon]at h ⊢;exact h
 ·rename_i hw
  simp only[hw]at h
  exact⟨by rw[←Act.put_comm a v undef f.dst];exact h,_,.inl rfl⟩
theorem SJ (hi:ops[i]?=some o) {x:Option Tmp} {v:Value} (f:MW ops x o) (h:op1 P ops i K a w):op1 P ops i (fun a' w'=>∃a3,a'=a3.put x v∧K a3 w') (a.put x v) w:=by
 unfold op1 wpOp at*
 simp only[hi]at*
 rw[wanted_put o a x v f.look]
 split
 ·rename_i hw
  simp only[hw,if_true]at h
  rcases h with h|⟨_,hl⟩
  case inr=>exact absurd hl pW
  refine .inl ?_
  unfold Oper.wp at*
  rw[execOp_put o f.sel a x v f.look]
  generalize (execOp a.eval o).run P w=r at*
  have hc:∀u,(a.put x v).put o.dst u=(a.put o.dst u).put x v:=fun u=>Act.put_comm a v u f.dst
  cases r with
  |ok n w'=>
   cases n<;>simp only[Oper.upon]at h ⊢
   case value u=>exact⟨_,hc u,h⟩
   case skip=>exact⟨_,hc _,h⟩
   case defer d=>
    refine⟨_,?_,h⟩
    rw[AK]
    exact Act.put_comm _ v undef f.dst
   case enter g args=>
    refine Calls.mono h fun e w'' he=> ?_
    cases e with
    |returned u=>exact⟨_,hc u,he⟩
    |panicked c=>exact he
    |outgrown=>exact he
   case row row args=>exact Rows.mono h fun u w'' he=>⟨_,hc u,he⟩
  |halt y w'=>cases y<;>simp only[Oper.upon]at h ⊢;exact h
 ·rename_i hw
  simp only[hw]at h
  exact⟨_,Act.put_comm a v undef f.dst,h⟩
theorem lW (a:Act) (x:Option Tmp) (u v:Value):(a.put x u).put x v=a.put x v:=by
 cases x with
 |none=>rfl
 |some d=>simp[Act.put]
theorem SI (hi:ops[i]?=some o) {v:Value} (hl:∀d,o.dst=some d→d∉o.looksAt ops) (hs:∀cs b,o.op≠ .select cs b) (h:op1 P ops i K (a.put o.dst v) w):op1 P ops i K a w:=by
 unfold op1 wpOp at*
 simp only[hi]at*
 rw[wanted_put o a o.dst v hl]at h
 split
 ·rename_i hw
  simp only[hw,if_true]at h
  rcases h with h|⟨_,hl⟩
  case inr=>exact absurd hl pW
  refine .inl ?_
  unfold Oper.wp at*
  rw[execOp_put o hs a o.dst v hl]at h
  generalize (execOp a.eval o).run P w=r at*
  cases r with
  |ok n w'=>
   cases n<;>simp only[Oper.upon]at h ⊢
   case value u=>rw[lW]at h;exact h
   case skip=>rw[lW]at h;exact h
   case defer d=>rw[AK,lW]at h;exact h
   case enter g args=>
    refine Calls.mono h fun e w'' he=> ?_
    cases e with
    |returned u=>(have he':K ((a.put o.dst v).put o.dst u) w'':=he);rw[lW]at he';exact he'
    |panicked c=>exact he
    |outgrown=>exact he
   case row row args=>exact Rows.mono h fun u w'' he=>by rw[lW]at he;exact he
  |halt y w'=>cases y<;>simp only[Oper.upon]at h ⊢;exact h
 ·rename_i hw
  simp only[hw]at h
  simp only[Bool.false_eq_true,if_false,lW]at h
  exact h
def RV (P:Program) (ops:Array Oper) (i:Nat) (v:Value) (a:Act) (w:World):Prop:=op1 P ops i (fun a' w'=>a'=a.put (sG ops i) v∧w'=w) a w
theorem RV.to {v:Value} (h:RV P ops i v a w) (hk:K (a.put (sG ops i) v) w):op1 P ops i K a w:=h.mono fun a' w' ⟨h1,h2⟩=>by rw[h1,h2];exact hk
theorem RV.push (hi:ops[i]?=some o) {x:Option Tmp} {u v:Value} (f:MW ops x o) (h:RV P ops i v a w):RV P ops i v (a.put x u) w:=by
 refine(SJ (v:=u) hi f h).mono fun a' w' ⟨a3,h1,h2,h3⟩=>⟨?_,h3⟩
 rw[h1,h2,ck hi]
 exact(Act.put_comm a u v f.dst).symm
theorem VB {a:Act} {x y:Option Tmp} {u p q:Value} (hxy:∀d,x=some d→y≠some d) (h:(a.put x u).put y p=(a.put x u).put y q):a.put y p=a.put y q:=by
 cases y with
 |none=>rfl
 |some e=>
  by_cases he:e<a.tmps.size
  ·have h1:=congrArg (fun b:Act=>b.tmps[e]?) h
   cases x with
   |none=>exact h
   |some d=>
    simp[Act.put,he]at h1
    rw[h1]
  ·simp[Act.put,Array.setIfInBounds,he]
theorem PY {a:Act} {x y:Option Tmp} {v u:Value} (hxy:∀d,x=some d→y≠some d) (h:(a.put x v).put y u=a.put x v):a.put y u=a:=by
 cases y with
 |none=>rfl
 |some e=>
  have hset:a.tmps[e]?=some u∨a.tmps.size≤e:=by
   rcases Nat.lt_or_ge e a.tmps.size with he|he
   ·refine .inl ?_
    have h1:=congrArg (fun q:Act=>q.tmps[e]?) h
    cases x with
    |none=>
     simp only[Act.put]at h1
     rw[Array.getElem?_setIfInBounds_self_of_lt he]at h1
     exact h1.symm
    |some d=>
     have hde:d≠e:=fun q=>hxy d rfl (by rw[q])
     simp only[Act.put]at h1
     rw[Array.getElem?_setIfInBounds_self_of_lt (by simpa using he),Array.getElem?_setIfInBounds_ne hde]at h1
     exact h1.symm
   ·exact .inr he
  have:a.tmps.setIfInBounds e u=a.tmps:=by
   apply Array.ext_getElem?
   intro j
   by_cases q:e=j
   ·subst q
    rcases hset with q|q
    ·obtain⟨hlt,_⟩:=Array.getElem?_eq_some_iff.1 q
     rw[Array.getElem?_setIfInBounds_self_of_lt hlt,q]
    ·rw[Array.getElem?_eq_none (by simpa using q),Array.getElem?_eq_none q]
   ·rw[Array.getElem?_setIfInBounds_ne q]
  simp only[Act.put,this]
theorem RV.pull (hi:ops[i]?=some o) {x:Option Tmp} {u v:Value} (f:MW ops x o) (h:RV P ops i v (a.put x u) w):RV P ops i v a w:=by
 refine(Bb hi f h).mono fun a' w' ⟨⟨h1,h2⟩,z,h3⟩=>⟨?_,h2⟩
 rw[ck hi]at h1 ⊢
 rcases h3 with rfl|⟨d,rfl⟩
 ·rw[←Act.put_comm a u z f.dst]at h1
  exact VB f.dst h1
 ·have:=congrArg Act.defers h1
  rw[kK,kK,kK,kK]at this
  have:=congrArg List.length this
  simp at this
theorem RV.self (hi:ops[i]?=some o) {u v:Value} (hl:∀d,o.dst=some d→d∉o.looksAt ops) (hs:∀cs b,o.op≠ .select cs b) (h:RV P ops i v (a.put o.dst u) w):RV P ops i v a w:=by
 unfold RV at h
 rw[ck hi]at h
 simp only[lW]at h
 unfold RV
 rw[ck hi]
 exact SI hi hl hs h
theorem RV.defer {v:Value} {d:Deferred} (hi:ops[i]?=some o) (h:RV P ops i v a w):RV P ops i v {a with defers:=d::a.defers} w:=by
 unfold RV op1 wpOp at*
 rw[ck hi]at*
 simp only[hi]at*
 have hev:({a with defers:=d::a.defers}:Act).eval=a.eval:=funext fun x=>by cases x<;>rfl
 split
 ·rename_i hw
  simp only[hw,if_true]at h
  rcases h with h|⟨_,hl⟩
  case inr=>exact absurd hl pW
  refine .inl ?_
  unfold Oper.wp at*
  rw[hev]
  generalize (execOp a.eval o).run P w=r at*
  have hc:∀u,a.put o.dst u=a.put o.dst v→({a with defers:=d::a.defers}:Act).put o.dst u=({a with defers:=d::a.defers}:Act).put o.dst v:=fun u hu=>by
   have:=congrArg Act.tmps hu
   cases hd:o.dst with
   |none=>rfl
   |some t=>rw[hd]at this;simp only[Act.put]at this ⊢;rw[this]
  cases r with
  |ok n w'=>
   cases n<;>simp only[Oper.upon]at h ⊢
   case value u=>exact⟨hc u h.1,h.2⟩
   case skip=>exact⟨hc _ h.1,h.2⟩
   case defer e=>
    exfalso
    have:=congrArg List.length (congrArg Act.defers h.1)
    rw[kK,kK]at this
    simp at this
   case enter g args=>
    refine Calls.mono h fun e w'' he=> ?_
    cases e with
    |returned u=>exact⟨hc u he.1,he.2⟩
    |panicked c=>exact he
    |outgrown=>exact he
   case row row args=>exact Rows.mono h fun u w'' he=>⟨hc u he.1,he.2⟩
  |halt y w'=>cases y<;>simp only[Oper.upon]at h ⊢;exact h
 ·rename_i hw
  simp only[hw]at h
  have:=congrArg Act.tmps h.1
  refine⟨?_,h.2⟩
  cases hd:o.dst with
  |none=>rfl
  |some t=>rw[hd]at this;simp only[Act.put]at this ⊢;rw[this]
theorem RV.sh (hi:ops[i]?=some o) {v:Value} {x:Option Tmp} (f:MW ops x o) (hs:Sh x a a') (h:RV P ops i v a w):RV P ops i v a' w:=by
 obtain⟨u,rfl|⟨d,rfl⟩⟩:=hs
 ·exact h.push hi f
 ·exact(h.defer hi).push hi f
def nh (P:Program) (ops:Array Oper) (Q:Act→World→Prop):List (Nat×Kd)→Act→World→Prop
 |[],a,w=>Q a w
 |(i,.P)::r,a,w=>∃v,(∀w',RV P ops i v a w')∧nh P ops Q r (a.put (sG ops i) v) w
 |(i,.R)::r,a,w=>∃v,RV P ops i v a w∧nh P ops Q r (a.put (sG ops i) v) w
 |(i,.E)::r,a,w=>op1 P ops i (nh P ops Q r) a w
 |(i,.A)::r,a,w=>(∃v,RV P ops i v a w∧a.put (sG ops i) v=a)∧nh P ops Q r a w
def gM:List (Nat×Kd)→List (Nat×Kd)
 |[]=>[]
 |(_,.A)::r=>gM r
 |x::r=>x::gM r
def kw:List (Nat×Kd)→Bool
 |[]=>true
 |(_,.E)::_=>false
 |_::r=>kw r
def rc (ops:Array Oper) (b i:Nat):Bool:=match ops[b]?,ops[i]? with
 |some x,some y=>(match x.dst with|some d=> !(y.looksAt ops).contains d&&(match y.dst with|some e=> !Nat.beq e d|none=>true)|none=>true)&&(match y.op with|.select ..=>false|_=>true)
 |_,_=>false
def NJ (ops:Array Oper) (i:Nat):Bool:=match ops[i]? with
 |some y=>(match y.dst with|some d=> !(y.looksAt ops).contains d|none=>true)&&(match y.op with|.select ..=>false|_=>true)
 |none=>false
theorem kQ {b i:Nat} (h:rc ops b i=true):∃x y,ops[b]?=some x∧ops[i]?=some y∧MW ops x.dst y:=by
 unfold rc at h
 rcases hb:ops[b]? with _|x
 ·simp[hb]at h
 rcases hi:ops[i]? with _|y
 ·simp[hb,hi]at h
 simp only[hb,hi,acT]at h
 refine⟨x,y,rfl,rfl,fun d hd hm=> ?_,fun d hd he=> ?_,fun cs c hc=> ?_⟩
 ·simp[hd,hm]at h
 ·simp[hd,he]at h
 ·simp[hc]at h
theorem So {i:Nat} (h:NJ ops i=true):∃y,ops[i]?=some y∧(∀d,y.dst=some d→d∉y.looksAt ops)∧∀cs b,y.op≠ .select cs b:=by
 unfold NJ at h
 rcases hi:ops[i]? with _|y
 ·simp[hi]at h
 simp only[hi,acT]at h
 refine⟨y,rfl,fun d hd hm=> ?_,fun cs c hc=> ?_⟩
 ·simp[hd,hm]at h
 ·simp[hc]at h
def again (ops:Array Oper) (b:Nat):List (Nat×Kd)→Bool
 |[]=>false
 |(i,.A)::r=>Nat.beq i b||again ops b r
 |(_,.E)::_=>false
 |(i,_)::r=>rc ops i b&&again ops b r
theorem sK {Q:Act→World→Prop} {b:Nat} {y:Oper} (hb:ops[b]?=some y):∀{C:List (Nat×Kd)} {a:Act} {w:World},again ops b C=true→nh P ops Q C a w→∃v,RV P ops b v a w∧a.put y.dst v=a
 |[],_,_,h,_=>by simp[again]at h
 |(i,.A)::r,a,w,h,⟨⟨v,h1,h2⟩,h3⟩=>by
  simp only[again,Bool.or_eq_true]at h
  rcases h with h|h
  ·have:=acE h
   subst this
   exact⟨v,h1,by rw[←ck hb];exact h2⟩
  ·exact sK hb h h3
 |(_,.E)::r,_,_,h,_=>by simp[again]at h
 |(i,.P)::r,a,w,h,⟨v,h1,h2⟩=>by
  simp only[again,acT]at h
  obtain⟨x,z,e1,e2,f⟩:=kQ h.1
  rw[hb]at e2;cases e2
  rw[ck e1]at h2
  obtain⟨u,g1,g2⟩:=sK hb h.2 h2
  exact⟨u,g1.pull hb f,PY f.dst g2⟩
 |(i,.R)::r,a,w,h,⟨v,h1,h2⟩=>by
  simp only[again,acT]at h
  obtain⟨x,z,e1,e2,f⟩:=kQ h.1
  rw[hb]at e2;cases e2
  rw[ck e1]at h2
  obtain⟨u,g1,g2⟩:=sK hb h.2 h2
  exact⟨u,g1.pull hb f,PY f.dst g2⟩
def jQ (ops:Array Oper) (b:Nat) (kb:Kd) (j:Nat) (kj:Kd) (C:List (Nat×Kd)):Bool:=
 rc ops b j&&rc ops j b&&(match kb,kj with
  |.P,_=>true
  |.R,.E=>NJ ops b&&again ops b C
  |.R,_=>true
  |_,_=>false)
def iO (ops:Array Oper) (j:Nat) (kj:Kd) (C:List (Nat×Kd)):List (Nat×Kd)→Bool
 |[]=>true
 |(_,.A)::B=>iO ops j kj C B
 |(b,kb)::B=>jQ ops b kb j kj C&&(match kb,kj with|.R,.E=>(B.all fun p=>match p.2 with|.A=>true|_=>rc ops p.1 b)|_,_=>true)&&iO ops j kj C B
theorem sL {b:Nat}:∀{B C:List (Nat×Kd)},(B.all fun p=>match p.2 with|.A=>true|_=>rc ops p.1 b)=true→kw B=true→again ops b C=true→again ops b (gM B++C)=true
 |[],_,_,_,h=>h
 |(_,.A)::B,C,h,he,h2=>sL (B:=B) (by simpa using h) (by simpa[kw] using he) h2
 |(_,.E)::B,C,h,he,h2=>by simp[kw]at he
 |(i,.P)::B,C,h,he,h2=>by
  simp only[List.all_cons,acT]at h
  simp only[gM,acI,again,acT]
  exact⟨h.1,sL h.2 (by simpa[kw] using he) h2⟩
 |(i,.R)::B,C,h,he,h2=>by
  simp only[List.all_cons,acT]at h
  simp only[gM,acI,again,acT]
  exact⟨h.1,sL h.2 (by simpa[kw] using he) h2⟩
theorem Cq {Q:Act→World→Prop} {j:Nat} {kj:Kd} (hk:kj= .P∨kj= .R) {C:List (Nat×Kd)}:∀{B:List (Nat×Kd)} {a:Act} {w:World},kw B=true→iO ops j kj C B=true→nh P ops Q (B++(j,kj)::C) a w→
  ∃v,RV P ops j v a w∧nh P ops Q (gM B++C) (a.put (sG ops j) v) w
 |[],a,w,_,_,h=>by
  rcases hk with rfl|rfl
  ·obtain⟨v,h1,h2⟩:=h;exact⟨v,h1 w,h2⟩
  ·exact h
 |(_,.A)::B,a,w,he,hp,h=>Cq hk (B:=B) (by simpa[kw] using he) (by simpa[iO] using hp) h.2
 |(_,.E)::B,a,w,he,hp,h=>by simp[kw]at he
 |(b,.P)::B,a,w,he,hp,⟨v,h1,h2⟩=>by
  simp only[iO,jQ,acT]at hp
  obtain⟨x,y,e1,e2,f⟩:=kQ hp.1.1.1.1
  obtain⟨y',x',e3,e4,f'⟩:=kQ hp.1.1.1.2
  rw[e2]at e3;cases e3
  rw[e1]at e4;cases e4
  obtain⟨u,g1,g2⟩:=Cq hk (by simpa[kw] using he) hp.2 h2
  rw[ck e1]at g1 g2
  rw[ck e2]at g2 ⊢
  refine⟨u,g1.pull e2 f,v,fun w'=>(h1 w').push e1 f',?_⟩
  rw[ck e1,←Act.put_comm a v u f.dst]
  exact g2
 |(b,.R)::B,a,w,he,hp,⟨v,h1,h2⟩=>by
  simp only[iO,jQ,acT]at hp
  obtain⟨x,y,e1,e2,f⟩:=kQ hp.1.1.1.1
  obtain⟨y',x',e3,e4,f'⟩:=kQ hp.1.1.1.2
  rw[e2]at e3;cases e3
  rw[e1]at e4;cases e4
  obtain⟨u,g1,g2⟩:=Cq hk (by simpa[kw] using he) hp.2 h2
  rw[ck e1]at g1 g2
  rw[ck e2]at g2 ⊢
  refine⟨u,g1.pull e2 f,v,h1.push e1 f',?_⟩
  rw[ck e1,←Act.put_comm a v u f.dst]
  exact g2
theorem GQ {Q:Act→World→Prop} {j:Nat} {C:List (Nat×Kd)}:∀{B:List (Nat×Kd)} {a:Act} {w:World},kw B=true→iO ops j .E C B=true→nh P ops Q (B++(j,.E)::C) a w→op1 P ops j (nh P ops Q (gM B++C)) a w
 |[],a,w,_,_,h=>h
 |(_,.A)::B,a,w,he,hp,h=>GQ (B:=B) (by simpa[kw] using he) (by simpa[iO] using hp) h.2
 |(_,.E)::B,a,w,he,hp,h=>by simp[kw]at he
 |(b,.P)::B,a,w,he,hp,⟨v,h1,h2⟩=>by
  simp only[iO,jQ,acT]at hp
  obtain⟨x,y,e1,e2,f⟩:=kQ hp.1.1.1.1
  obtain⟨y',x',e3,e4,f'⟩:=kQ hp.1.1.1.2
  rw[e2]at e3;cases e3
  rw[e1]at e4;cases e4
  have g:=GQ (by simpa[kw] using he) hp.2 h2
  rw[ck e1]at g
  refine(Bb e2 f g).mono fun a' w' ⟨g1,g2⟩=>⟨v,fun w''=>(h1 w'').sh e1 f' g2,?_⟩
  rw[ck e1];exact g1
 |(b,.R)::B,a,w,he,hp,⟨v,h1,h2⟩=>by
  simp only[iO,jQ,acT]at hp
  obtain⟨⟨⟨⟨p1,p2⟩,p3,p4⟩,p5⟩,p6⟩:=hp
  obtain⟨x,y,e1,e2,f⟩:=kQ p1
  obtain⟨x',e5,hl,hs⟩:=So p3
  rw[e1]at e5;cases e5
  have heB:kw B=true:=by simpa[kw] using he
  have g:=GQ heB p6 h2
  rw[ck e1]at g
  refine(Bb e2 f g).mono fun a' w' ⟨g1,_⟩=> ?_
  obtain⟨u,r1,r2⟩:=sK e1 (sL p5 heB p4) g1
  rw[lW]at r2
  have r3:=r1.self e1 hl hs
  refine⟨u,r3,?_⟩
  rw[ck e1,r2]
  exact g1
def qe (ops:Array Oper) (j:Nat):List Nat:=match ops[j]? with
 |some o=>(o.after.toList.filter (Region.binds .any)).map (·.on)
 |none=>[]
def iN (ops:Array Oper) (ex:List (Nat×Nat)) (j:Nat):List Nat:=qe ops j++(ex.filter fun p=>Nat.beq p.2 j).map (·.1)
def oh (ops:Array Oper) (ex:List (Nat×Nat)):Nat→Nat→Nat→Bool
 |0,_,_=>false
 |f+1,j,b=>(iN ops ex j).any fun k=>Nat.beq k b||oh ops ex f k b
def hC (ops:Array Oper) (ex:List (Nat×Nat)) (b:Nat) (kb:Kd):List (Nat×Kd)→Bool
 |[]=>true
 |(_,.A)::r=>hC ops ex b kb r
 |(j,kj)::r=> !Nat.beq j b&& !(iN ops ex b).contains j&&(oh ops ex 40 j b||jQ ops b kb j kj r)&&(match kb with|.R=>rc ops j b|_=>true)&&hC ops ex b kb r
def qF (ops:Array Oper) (ex:List (Nat×Nat)):List (Nat×Kd)→Bool
 |[]=>true
 |(_,.A)::r=>qF ops ex r
 |(b,kb)::r=> !(iN ops ex b).contains b&&hC ops ex b kb r&&qF ops ex r
def wI:List (Nat×Kd)→Nat
 |[]=>0
 |(_,.A)::r=>wI r
 |_::r=>wI r+1
def ry (listed:Array Bool) (k:Nat):Prop:=listed.getD k false=true
def RD (ops:Array Oper) (ex:List (Nat×Nat)) (listed:Array Bool):Prop:=∀k,ry listed k→∀m∈iN ops ex k,ry listed m
section
variable {ex:List (Nat×Nat)}
theorem Cp {listed:Array Bool} (hc:RD ops ex listed) {b:Nat}:∀(f j:Nat),(∀m∈iN ops ex j,ry listed m)→oh ops ex f j b=true→ry listed b
 |0,_,_,h=>by simp[oh]at h
 |f+1,j,hj,h=>by
  simp only[oh,List.any_eq_true,Bool.or_eq_true]at h
  obtain⟨k,hk,h⟩:=h
  rcases h with h|h
  ·have:=acE h
   subst this;exact hj _ hk
  ·exact Cp hc f k (hc k (hj k hk)) h
theorem SW {listed:Array Bool} {j:Nat} (h:listed.getD j true=false):¬ry listed j:=by
 unfold ry
 rcases Nat.lt_or_ge j listed.size with hl|hl
 ·simp[hl]at h ⊢;exact h
 ·simp[Array.getElem?_eq_none hl]at h
theorem kx (k:Kd):k= .A∨k≠ .A:=by cases k<;>simp
theorem mF {b j:Nat} {kb kj:Kd} {r:List (Nat×Kd)} (hk:kj≠ .A) (h:hC ops ex b kb ((j,kj)::r)=true):
  j≠b∧(iN ops ex b).contains j=false∧(oh ops ex 40 j b=true∨jQ ops b kb j kj r=true)∧(kb= .R→rc ops j b=true)∧hC ops ex b kb r=true:=by
 cases kj
 case A=>exact absurd rfl hk
 all_goals
  simp only[hC,acT,Bool.not_eq_true',Bool.or_eq_true]at h
  obtain⟨⟨⟨⟨h1,h2⟩,h3⟩,h4⟩,h5⟩:=h
  refine⟨fun e=>by subst e;simp at h1,h2,h3,fun e=> ?_,h5⟩
  subst e;exact h4
theorem Su {b j:Nat} {kb kj:Kd} {r:List (Nat×Kd)} (hk:kj≠ .A) (h1:j≠b) (h2:(iN ops ex b).contains j=false) (h3:oh ops ex 40 j b=true∨jQ ops b kb j kj r=true) (h4:kb= .R→rc ops j b=true) (h5:hC ops ex b kb r=true):
  hC ops ex b kb ((j,kj)::r)=true:=by
 have hb:Nat.beq j b=false:=by
  cases e:Nat.beq j b with
  |false=>rfl
  |true=>exact absurd (acE e) h1
 cases kj
 case A=>exact absurd rfl hk
 all_goals
  simp only[hC,acT,Bool.not_eq_true',Bool.or_eq_true]
  refine⟨⟨⟨⟨hb,h2⟩,h3⟩,?_⟩,h5⟩
  cases kb<;>first|rfl|exact h4 rfl
theorem lH {b:Nat} {kb:Kd} {r:List (Nat×Kd)} (hk:kb≠ .A) (h:qF ops ex ((b,kb)::r)=true):(iN ops ex b).contains b=false∧hC ops ex b kb r=true∧qF ops ex r=true:=by
 cases kb
 case A=>exact absurd rfl hk
 all_goals
  simp only[qF,acT,Bool.not_eq_true']at h
  exact⟨h.1.1,h.1.2,h.2⟩
theorem aav {b:Nat} {kb:Kd} {r:List (Nat×Kd)} (h1:(iN ops ex b).contains b=false) (h2:hC ops ex b kb r=true) (h3:qF ops ex r=true):qF ops ex ((b,kb)::r)=true:=by
 cases kb<;>simp only[qF,acT,Bool.not_eq_true']<;>first|exact⟨⟨h1,h2⟩,h3⟩|exact h3
theorem Qe {b j:Nat} {kb kj:Kd} {C C':List (Nat×Kd)} (hk:kj≠ .E) (h:jQ ops b kb j kj C=true):jQ ops b kb j kj C'=true:=by
 unfold jQ at h ⊢
 cases kb<;>cases kj<;>first|exact h|exact absurd rfl hk
theorem Ic {b:Nat} {kb:Kd} {B:List (Nat×Kd)} (h:kw ((b,kb)::B)=true):kb≠ .E∧kw B=true:=by
 cases kb<;>simp[kw]at h ⊢ <;>exact h
theorem wO {b j:Nat} {kb k:Kd} {C:List (Nat×Kd)}:∀{B:List (Nat×Kd)},kw B=true→hC ops ex b kb (B++(j,k)::C)=true→hC ops ex b kb (gM B++C)=true
 |[],_,h=>by
  rcases kx k with rfl|hk
  ·exact h
  ·exact(mF hk h).2.2.2.2
 |(i,ki)::B,he,h=>by
  obtain⟨h0,h1⟩:=Ic he
  rcases kx ki with rfl|hk
  ·exact wO (B:=B) h1 h
  ·obtain⟨a1,a2,a3,a4,a5⟩:=mF hk h
   have:gM ((i,ki)::B)=(i,ki)::gM B:=by cases ki<;>first|rfl|exact absurd rfl hk
   rw[this]
   exact Su hk a1 a2 (a3.imp id (Qe h0)) a4 (wO h1 a5)
theorem Ei {j:Nat} {k:Kd} {C:List (Nat×Kd)}:∀{B:List (Nat×Kd)},kw B=true→qF ops ex (B++(j,k)::C)=true→qF ops ex (gM B++C)=true
 |[],_,h=>by
  rcases kx k with rfl|hk
  ·exact h
  ·exact(lH hk h).2.2
 |(i,ki)::B,he,h=>by
  obtain⟨h0,h1⟩:=Ic he
  rcases kx ki with rfl|hk
  ·exact Ei (B:=B) h1 h
  ·obtain⟨a1,a2,a3⟩:=lH hk h
   have:gM ((i,ki)::B)=(i,ki)::gM B:=by cases ki<;>first|rfl|exact absurd rfl hk
   rw[this]
   exact aav a1 (wO h1 a2) (Ei h1 a3)
theorem AF {b j:Nat} {kb kj:Kd} (hk:kj≠ .A) {C:List (Nat×Kd)}:∀{B:List (Nat×Kd)},hC ops ex b kb (B++(j,kj)::C)=true→j≠b∧(oh ops ex 40 j b=true∨jQ ops b kb j kj C=true)∧(kb= .R→(B.all fun p=>match p.2 with|.A=>true|_=>rc ops p.1 b)=true)
 |[],h=>by
  obtain⟨a1,a2,a3,a4,a5⟩:=mF hk h
  exact⟨a1,a3,fun _=>rfl⟩
 |(i,ki)::B,h=>by
  rcases kx ki with rfl|hki
  ·obtain⟨b1,b2,b3⟩:=AF hk (B:=B) h
   exact⟨b1,b2,fun e=>by simpa using b3 e⟩
  ·obtain⟨a1,a2,a3,a4,a5⟩:=mF hki h
   obtain⟨b1,b2,b3⟩:=AF hk a5
   refine⟨b1,b2,fun e=> ?_⟩
   rw[List.all_cons,b3 e,Bool.and_true]
   have:=a4 e
   cases ki<;>first|rfl|exact this
theorem xy {j:Nat} {kj:Kd} (hk:kj≠ .A) {C:List (Nat×Kd)}:∀{B:List (Nat×Kd)},qF ops ex (B++(j,kj)::C)=true→(∀b kb,(b,kb)∈B→kb≠ .A→oh ops ex 40 j b=false)→
  kw B=true∧iO ops j kj C B=true∧∀b kb,(b,kb)∈B→kb≠ .A→b≠j
 |[],_,_=>⟨rfl,rfl,fun _ _ h=>by simp at h⟩
 |(i,ki)::B,h,hr=>by
  rcases kx ki with rfl|hki
  ·obtain⟨b1,b2,b3⟩:=xy hk (B:=B) h fun b kb hm=>hr b kb (by simp[hm])
   exact⟨b1,b2,fun b kb hm hne=>by
    rcases List.mem_cons.1 hm with e|hm
    ·cases e;exact absurd rfl hne
    ·exact b3 b kb hm hne⟩
  ·obtain⟨a1,a2,a3⟩:=lH hki h
   obtain⟨b1,b2,b3⟩:=xy hk a3 fun b kb hm=>hr b kb (by simp[hm])
   obtain⟨c1,c2,c3⟩:=AF hk a2
   have hp:jQ ops i ki j kj C=true:=c2.resolve_left (by rw[hr i ki (by simp) hki];decide)
   refine⟨?_,?_,fun b kb hm hne=> ?_⟩
   ·cases ki
    case E=>simp[jQ]at hp
    case A=>exact absurd rfl hki
    all_goals exact b1
   ·cases ki
    case A=>exact absurd rfl hki
    case R=>
     have h3:=c3 rfl
     simp only[iO,acT]
     refine⟨⟨hp,?_⟩,b2⟩
     cases kj<;>first|rfl|exact h3
    all_goals
     simp only[iO,acT]
     exact⟨⟨hp,trivial⟩,b2⟩
   ·rcases List.mem_cons.1 hm with e|hm
    ·cases e;exact c1.symm
    ·exact b3 b kb hm hne
theorem uQ {b:Nat} {kb:Kd}:∀{r:List (Nat×Kd)},hC ops ex b kb r=true→∀j kj,(j,kj)∈r→kj≠ .A→j≠b∧(iN ops ex b).contains j=false
 |[],_,_,_,hm,_=>by simp at hm
 |(i,ki)::r,h,j,kj,hm,hne=>by
  rcases kx ki with rfl|hki
  ·rcases List.mem_cons.1 hm with e|hm
   ·cases e;exact absurd rfl hne
   ·exact uQ (r:=r) h j kj hm hne
  ·obtain⟨a1,a2,a3,a4,a5⟩:=mF hki h
   rcases List.mem_cons.1 hm with e|hm
   ·cases e;exact⟨a1,a2⟩
   ·exact uQ a5 j kj hm hne
theorem Ej {j:Nat} {kj:Kd} (hk:kj≠ .A) {C:List (Nat×Kd)}:∀{B:List (Nat×Kd)},qF ops ex (B++(j,kj)::C)=true→hC ops ex j kj C=true
 |[],h=>(lH hk h).2.1
 |(i,ki)::B,h=>by
  rcases kx ki with rfl|hki
  ·exact Ej hk (B:=B) h
  ·exact Ej hk (lH hki h).2.2
theorem IK {b:Nat} {kb:Kd} (hk:kb≠ .A):∀{B:List (Nat×Kd)},(b,kb)∈B→(b,kb)∈gM B
 |[],h=>by simp at h
 |(i,ki)::B,h=>by
  rcases List.mem_cons.1 h with e|h
  ·cases e
   cases kb<;>first|exact absurd rfl hk|simp[gM]
  ·have:=IK hk h
   cases ki<;>simp[gM,this]
theorem qE {b:Nat} {kb:Kd}:∀{B:List (Nat×Kd)},(b,kb)∈gM B→(b,kb)∈B
 |[],h=>by simp[gM]at h
 |(i,ki)::B,h=>by
  cases ki
  case A=>exact List.mem_cons_of_mem _ (qE (B:=B) h)
  all_goals
   rcases List.mem_cons.1 (show(b,kb)∈_::gM B from h) with e|h
   ·rw[e];exact List.mem_cons_self
   ·exact List.mem_cons_of_mem _ (qE h)
theorem ML {j:Nat} {k:Kd} (hk:k≠ .A) {C:List (Nat×Kd)}:∀{B:List (Nat×Kd)},wI (B++(j,k)::C)=wI (gM B++C)+1
 |[]=>by cases k<;>first|rfl|exact absurd rfl hk
 |(i,ki)::B=>by
  have:=ML hk (B:=B) (C:=C) (j:=j)
  cases ki<;>simp only[acI,gM,wI]<;>omega
theorem Ho {Q:Act→World→Prop}:∀{R:List (Nat×Kd)} {a:Act} {w:World},wI R=0→nh P ops Q R a w→Q a w
 |[],_,_,_,h=>h
 |(_,.A)::R,_,_,hc,h=>Ho (R:=R) hc h.2
 |(_,.P)::R,_,_,hc,h=>by simp[wI]at hc
 |(_,.R)::R,_,_,hc,h=>by simp[wI]at hc
 |(_,.E)::R,_,_,hc,h=>by simp[wI]at hc
theorem yX {Q:Exit→Act→World→Prop} (h:op1 P ops i K a w):wpOp P ops Q i K a w:=by
 unfold op1 wpOp at*
 rcases hi:ops[i]? with _|o
 ·simp only[hi]at*;exact h
 simp only[hi]at*
 split
 ·rename_i hw
  simp only[hw,if_true]at h
  rcases h with h|⟨_,hl⟩
  case inr=>exact absurd hl pW
  refine .inl ?_
  unfold Oper.wp at*
  generalize (execOp a.eval o).run P w=r at*
  cases r with
  |ok n w'=>
   cases n<;>simp only[Oper.upon]at h ⊢
   case enter g args=>
    refine Calls.mono h fun e w'' he=> ?_
    cases e with
    |returned u=>exact he
    |panicked c=>exact False.elim he
    |outgrown=>exact absurd he pW
   all_goals exact h
  |halt y w'=>cases y<;>simp only[Oper.upon]at h ⊢;exact False.elim h
 ·rename_i hw
  simp only[hw]at h
  exact h
theorem JM:∀{R:List (Nat×Kd)},wI R≠0→∃B b kb C,R=B++(b,kb)::C∧kb≠ .A∧∀x∈B,x.2= .A
 |[],h=>absurd rfl h
 |(i,.A)::R,h=>by
  obtain⟨B,b,kb,C,h1,h2,h3⟩:=JM (R:=R) h
  exact⟨(i,.A)::B,b,kb,C,by rw[h1];rfl,h2,fun x hx=>by
   rcases List.mem_cons.1 hx with rfl|hx
   ·rfl
   ·exact h3 x hx⟩
 |(i,.P)::R,_=>⟨[],i,.P,R,rfl,by simp,by simp⟩
 |(i,.R)::R,_=>⟨[],i,.R,R,rfl,by simp,by simp⟩
 |(i,.E)::R,_=>⟨[],i,.E,R,rfl,by simp,by simp⟩
theorem FG {b:Nat} {kb:Kd} (hk:kb≠ .A) {C:List (Nat×Kd)}:∀{B:List (Nat×Kd)},(∀x∈B,x.2= .A)→qF ops ex (B++(b,kb)::C)=true→(iN ops ex b).contains b=false∧hC ops ex b kb C=true
 |[],_,h=>⟨(lH hk h).1,(lH hk h).2.1⟩
 |(i,ki)::B,hB,h=>by
  have:ki= .A:=hB (i,ki) (by simp)
  subst this
  exact FG hk (B:=B) (fun x hx=>hB x (by simp[hx])) h
def nN (ops:Array Oper):Nat→Array Bool→List Nat→Prop
 |0,_,r=>r=[]
 |f+1,listed,r=>(Region.ready .any ops listed=[]∧r=[])∨∃i r',i∈Region.ready .any ops listed∧r=i::r'∧nN ops f (listed.setIfInBounds i true) r'
theorem Sp:∀(fuel t:Nat) (listed:Array Bool),nN ops fuel listed (Region.linearise.go .any ops fuel t listed []):=by
 intro fuel
 induction fuel with
 |zero=>intro t listed;simp[Region.linearise.go,nN]
 |succ fuel ih=>
  intro t listed
  simp only[Region.linearise.go]
  change nN ops (fuel+1) listed (match (Region.ready .any ops listed)[t % (Region.ready .any ops listed).length]? with
   |some i=>Region.linearise.go .any ops fuel (t / (Region.ready .any ops listed).length) (listed.setIfInBounds i true) [i]
   |none=>[].reverse)
  cases hi:(Region.ready .any ops listed)[t % (Region.ready .any ops listed).length]? with
  |none=>
   have hnil:Region.ready .any ops listed=[]:=by
    cases hr:Region.ready .any ops listed with
    |nil=>rfl
    |cons x xs=>
     rw[hr]at hi
     have hlt:t % (x::xs).length<(x::xs).length:=Nat.mod_lt _ (by simp)
     simp at hi
     simp at hlt
     omega
   exact .inl ⟨hnil,rfl⟩
  |some i=>
   simp only[]
   rw[linearise_go_acc,List.reverse_singleton,List.singleton_append]
   exact .inr ⟨i,_,acF hi,rfl,ih _ _⟩
def KM (x y:Nat) (r:List Nat):Prop:=∀A B,r=A++y::B→x∈A
theorem RA {x y:Nat} (h:x≠y) (r:List Nat):KM x y r∨KM y x r:=by
 by_cases hb:KM x y r
 ·exact .inl hb
 ·refine .inr fun A' B' hr=> ?_
  unfold KM at hb
  obtain⟨A,hb⟩:=Classical.not_forall.1 hb
  obtain⟨B,hb⟩:=Classical.not_forall.1 hb
  obtain⟨h1,h2⟩:=Classical.not_imp.1 hb
  rw[h1]at hr
  rcases List.append_eq_append_iff.1 hr with⟨C,e1,e2⟩|⟨C,e1,e2⟩
  ·rw[e1]
   cases C with
   |nil=>simp at e2;exact absurd e2.1 (Ne.symm h)
   |cons c C=>simp at e2;rw[←e2.1];simp
  ·cases C with
   |nil=>simp at e2;exact absurd e2.1 h
   |cons c C=>
    simp at e2
    exact absurd (by rw[e1,←e2.1];simp) h2
theorem PR {Q:Exit→Act→World→Prop}:∀(fuel:Nat) (R:List (Nat×Kd)) (listed:Array Bool) (A r:List Nat) (a:Act) (w:World),qF ops ex R=true→RD ops ex listed→
  (∀j,listed.getD j true=false→∃k,k≠ .A∧(j,k)∈R)→(∀j k,(j,k)∈R→k≠ .A→listed.getD j true=false)→(∀j m,m∈qe ops j→m<listed.size)→(∀j k,(j,k)∈R→k≠ .A→j<ops.size)→wI R=fuel→
  nN ops fuel listed r→(∀x∈A,ry listed x)→(∀p∈ex,KM p.1 p.2 (A++r))→nh P ops (fun a w=>Q .normal a w) R a w→wpOps P ops Q r a w:=by
 intro fuel
 induction fuel with
 |zero=>
  intro R listed A r a w hok hcl h1 h3 h6 h7 hc hs hA hB h
  have:r=[]:=hs
  subst this
  exact Ho hc h
 |succ fuel ih=>
  intro R listed A r a w hok hcl h1 h3 h6 h7 hc hs hA hB h
  rcases hs with⟨hr,rfl⟩|⟨j,r',hj,rfl,hs⟩
  ·exfalso
   obtain⟨B,b,kb,C,rfl,hk,hB'⟩:=JM (R:=R) (by omega)
   obtain⟨g1,g2⟩:=FG hk hB' hok
   have hb:=h3 b kb (by simp) hk
   have hlt:=h7 b kb (by simp) hk
   have:b∈Region.ready .any ops listed:=by
    refine mem_ready.2 ⟨hb,ops[b],by simp[hlt],fun e he hbd=> ?_⟩
    have hm:e.on∈qe ops b:=by
     simp only[qe,Array.getElem?_eq_getElem hlt,List.mem_map,List.mem_filter]
     exact⟨e,⟨by simpa using he,hbd⟩,rfl⟩
    have hm2:e.on∈iN ops ex b:=acP.2 (.inl hm)
    have hms:=h6 b _ hm
    rcases hd:listed.getD e.on true with _|_
    ·exfalso
     obtain⟨k',hk',hm'⟩:=h1 _ hd
     rcases acP.1 hm' with q|q
     ·exact hk' (hB' _ q)
     ·rcases List.mem_cons.1 q with e'|q
      ·injection e' with e1 e2
       rw[e1]at hm2
       rw[List.contains_iff_mem.2 hm2]at g1;cases g1
      ·have:=(uQ g2 _ k' q hk').2
       rw[List.contains_iff_mem.2 hm2]at this;cases this
    ·simp[hms]at hd ⊢
     exact hd
   rw[hr]at this
   cases this
  ·obtain⟨hju,oj,hoj,hall⟩:=mem_ready.1 hj
   obtain⟨k,hk,hm⟩:=h1 j hju
   obtain⟨B,C,rfl⟩:=List.append_of_mem hm
   have hjw:∀m∈iN ops ex j,ry listed m:=by
    intro m hm
    rcases acP.1 hm with hm|hm
    ·simp only[qe,hoj,List.mem_map,List.mem_filter]at hm
     obtain⟨e,⟨he,hb⟩,rfl⟩:=hm
     exact hall e (by simpa using he) hb
    ·simp only[List.mem_map,List.mem_filter]at hm
     obtain⟨p,⟨hp,hb⟩,rfl⟩:=hm
     have hb:=acE hb
     exact hA _ (hB p hp A r' (by rw[hb]))
   obtain⟨c1,c2,c3⟩:=xy hk hok fun b kb hb hne=>by
    rcases hr:oh ops ex 40 j b with _|_
    ·rfl
    ·exact absurd (Cp hcl 40 j hjw hr) (SW (h3 b kb (by simp[hb]) hne))
   have hop:op1 P ops j (nh P ops (fun a w=>Q .normal a w) (gM B++C)) a w:=by
    cases k
    case A=>exact absurd rfl hk
    case E=>exact GQ c1 c2 h
    case P=>
     obtain⟨v,v1,v2⟩:=Cq (.inl rfl) c1 c2 h
     exact v1.to v2
    case R=>
     obtain⟨v,v1,v2⟩:=Cq (.inr rfl) c1 c2 h
     exact v1.to v2
   rw[wpOps_cons]
   refine yX (hop.mono fun a' w' h'=> ?_)
   have hmid:=Ej hk hok
   refine ih (gM B++C) _ (A++[j]) r' a' w' (Ei c1 hok) ?_ ?_ ?_ ?_ ?_ ?_ hs ?_ ?_ h'
   ·intro i hi m hm
    by_cases hij:j=i
    ·subst hij;exact getD_set_true (hjw m hm)
    ·unfold ry at hi
     rw[getD_set_ne false hij]at hi
     exact getD_set_true (hcl i hi m hm)
   ·intro i hi
    by_cases hij:j=i
    ·subst hij
     rcases Nat.lt_or_ge j listed.size with hl|hl
     ·simp[hl]at hi
     ·simp[Array.getElem?_eq_none hl]at hju
    ·rw[getD_set_ne true hij]at hi
     obtain⟨k',hk',hm'⟩:=h1 i hi
     refine⟨k',hk',acP.2 ?_⟩
     rcases acP.1 hm' with q|q
     ·exact .inl (IK hk' q)
     ·rcases List.mem_cons.1 q with e|q
      ·cases e;exact absurd rfl hij
      ·exact .inr q
   ·intro i k' hm' hk'
    have hmem:(i,k')∈B++(j,k)::C∧i≠j:=by
     rcases acP.1 hm' with q|q
     ·exact⟨acP.2 (.inl (qE q)),c3 i k' (qE q) hk'⟩
     ·exact⟨acP.2 (.inr (List.mem_cons_of_mem _ q)),(uQ hmid i k' q hk').1⟩
    rw[getD_set_ne true (fun e=>hmem.2 e.symm)]
    exact h3 i k' hmem.1 hk'
   ·intro i m hm
    rw[Array.size_setIfInBounds]
    exact h6 i m hm
   ·intro i k' hm' hk'
    refine h7 i k' ?_ hk'
    rcases acP.1 hm' with q|q
    ·exact acP.2 (.inl (qE q))
    ·exact acP.2 (.inr (List.mem_cons_of_mem _ q))
   ·rw[ML hk]at hc
    omega
   ·intro x hx
    rcases acP.1 hx with hx|hx
    ·exact getD_set_true (hA x hx)
    ·simp at hx
     subst hx
     unfold ry
     rcases Nat.lt_or_ge x listed.size with hl|hl
     ·simp[hl]
     ·simp[Array.getElem?_eq_none hl]at hju
   ·intro p hp
    rw[acJ]
    exact hB p hp
end
def NQ (ops:Array Oper) (ex:List (Nat×Nat)) (n:Nat) (R:List (Nat×Kd)):Bool:=
 Nat.beq ops.size n&&Nat.beq (wI R) n&&qF ops ex R&&((List.range n).all fun j=>R.any fun p=>Nat.beq p.1 j&&(match p.2 with|.A=>false|_=>true))&&(R.all fun p=>Nat.blt p.1 n)&&((List.range n).all fun j=>(qe ops j).all fun m=>Nat.blt m n)
inductive Tr|leaf (R:List (Nat×Kd))|split (x y:Nat) (s t:Tr)
def yM (ops:Array Oper) (n:Nat):List (Nat×Nat)→Tr→Bool
 |ex,.leaf R=>NQ ops ex n R
 |ex,.split x y s t=> !Nat.beq x y&&yM ops n ((x,y)::ex) s&&yM ops n ((y,x)::ex) t
def Hn (P:Program) (ops:Array Oper) (Q:Act→World→Prop) (a:Act) (w:World):Tr→Prop
 |.leaf R=>nh P ops Q R a w
 |.split _ _ s t=>Hn P ops Q a w s∧Hn P ops Q a w t
theorem Wh {Q:Exit→Act→World→Prop} {ex:List (Nat×Nat)} {n:Nat} {R:List (Nat×Kd)} (hp:NQ ops ex n R=true) {r:List Nat} (hs:nN ops ops.size (Array.replicate ops.size false) r) (hb:∀p∈ex,KM p.1 p.2 r) {a:Act} {w:World}
  (h:nh P ops (fun a w=>Q .normal a w) R a w):wpOps P ops Q r a w:=by
 unfold NQ at hp
 simp only[acT]at hp
 obtain⟨⟨⟨⟨⟨p1,p2⟩,p3⟩,p4⟩,p5⟩,p6⟩:=hp
 have p1:=acE p1
 have p2:=acE p2
 refine PR ops.size R _ [] r a w p3 (fun k hk=> ?_) (fun j hj=> ?_) (fun j k hjk _=> ?_) (fun j m hmw=> ?_) (fun j k hjk _=> ?_) (by omega) hs (by simp) hb h
 ·unfold ry at hk
  rcases Nat.lt_or_ge k ops.size with q|q
  ·simp[q]at hk
  ·simp[Array.getElem?_eq_none,q]at hk
 ·have hlt:j<ops.size:=by
   rcases Nat.lt_or_ge j ops.size with q|q
   ·exact q
   ·simp[Array.getElem?_eq_none,q]at hj
  have:=List.all_eq_true.1 p4 j (by simp;omega)
  obtain⟨⟨b,k⟩,hb,hq⟩:=List.any_eq_true.1 this
  simp only[acT]at hq
  have hbj:=acE hq.1
  subst hbj
  exact⟨k,fun e=>by subst e;simp at hq,hb⟩
 ·have:=List.all_eq_true.1 p5 _ hjk
  simp only[acZ]at this
  have hlt:j<ops.size:=by omega
  simp[hlt]
 ·rw[Array.size_replicate]
  rcases Nat.lt_or_ge j ops.size with q|q
  ·have:=List.all_eq_true.1 (List.all_eq_true.1 p6 j (by simp;omega)) m hmw
   simp only[acZ]at this
   omega
  ·simp[qe,Array.getElem?_eq_none,q]at hmw
 ·have:=List.all_eq_true.1 p5 _ hjk
  simp only[acZ]at this
  omega
theorem DJ {Q:Exit→Act→World→Prop} {n:Nat} {r:List Nat} (hs:nN ops ops.size (Array.replicate ops.size false) r) {a:Act} {w:World}:∀(t:Tr) (ex:List (Nat×Nat)),yM ops n ex t=true→(∀p∈ex,KM p.1 p.2 r)→Hn P ops (fun a w=>Q .normal a w) a w t→wpOps P ops Q r a w
 |.leaf R,ex,hp,hb,h=>Wh hp hs hb h
 |.split x y s t,ex,hp,hb,⟨h1,h2⟩=>by
  simp only[yM,acT,Bool.not_eq_true']at hp
  obtain⟨⟨p1,p2⟩,p3⟩:=hp
  have hne:x≠y:=fun e=>by subst e;simp at p1
  rcases RA hne r with q|q
  ·exact DJ hs s _ p2 (fun p hp=>by rcases List.mem_cons.1 hp with rfl|hp<;>first|exact q|exact hb p hp) h1
  ·exact DJ hs t _ p3 (fun p hp=>by rcases List.mem_cons.1 hp with rfl|hp<;>first|exact q|exact hb p hp) h2
theorem DB {Q:Exit→Act→World→Prop} {id:Nat} (hm:P.follows .mixedOrders=true) (n:Nat) (t:Tr) (hp:yM ops n [] t=true) (h:Hn P ops (fun a w=>Q .normal a w) a {w with drawn:=w.drawn+1} t):(Code.region id ops true).wp P Q a w:=
 wp_region_draw fun k=>by
  simp only[Region.schedule,hm,Bool.true_or,if_true]
  exact DJ (Sp ops.size k _) t [] hp (by simp) h
end
section
variable {H:Type} {enc:TypeId×Value→H} {P:Program} {w:World} {base:Nat} {spare:Nat→Bool} {held:Bool}
end
end Go.Eng
namespace Go.Sy
open Go Go.RowKit Go.Eng
structure Env where
 at_:Nat→Value
 M:lh
instance:CoeFun Env (fun _=>Nat→Value):=⟨Env.at_⟩
noncomputable def aC (p:Prop):Bool:= @decide p (Classical.propDecidable p)
theorem prB_true {p:Prop}:aC p=true↔p:=by simp[aC]
theorem prB_false {p:Prop}:aC p=false↔¬p:=by simp[aC]
theorem lX (p:Prop) [Decidable p]:aC p=decide p:=by
 rw[Bool.eq_iff_iff,prB_true,decide_eq_true_eq]
theorem uR (b:Bool):aC (b=true)=b:=by cases b<;>simp[aC]
inductive PL:Type 1
 |int (k:Nat) (z:Int)|bool (b:Bool)|str (l:List Nat)|nilP|nilS|nilM|nilF|nilI
 |sint (k:Nat) (z:Int)|sbool (p:Prop)|sstr (l:List UInt8)
 |imm (h:Value) (sz:Nat) (α:Type) (l:List α) (enc:α→List PL)
inductive SY:Type 1
 |int (k:Nat) (z:Int)|bool (p:Prop)|str (l:List UInt8)|imm (h:Value) (sz:Nat) (α:Type) (l:List α) (enc:α→List PL)
 |pim (b o:Nat) (cs:List PL)|prow (i n:Nat)|psub (i sz a n:Nat)|rptr (i sz e o:Nat)|pfix (i n c:Nat)|kmp (i:Nat)
inductive ACap|ex (n:Nat)|rest (k:Nat)
inductive AV:Type 1
 |bad
 |int (k:Nat) (z:Int)|bool (b:Bool)|str (l:List Nat)|ptr (i o:Nat)|sl (i o n:Nat) (c:ACap)|map (i:Nat)
 |nilP|nilS|nilM|nilF|nilI|iface (t:Nat) (v:AV)|fn (f:Nat) (c:List AV)|yl (i:Nat)
 |agg (l:List AV)|tup (l:List AV)|any (i:Nat)|sy (s:SY)
def aH:Nat→IntKind
 |0=>.i64|1=>.u8|2=>.u16|3=>.u32|4=>.u64|5=>.i32|6=>.i16|_=>.i8
noncomputable def bD:PL→Value
 |.int k z=>.int (aH k) z
 |.bool b=>.bool b
 |.str l=>S (l.map acX)
 |.nilP=>.pointer none
 |.nilS=>.slice none 0 0
 |.nilM=>.map none
 |.nilF=>.nilFunc
 |.nilI=>.nilIface
 |.sint k z=>.int (aH k) z
 |.sbool p=>.bool (aC p)
 |.sstr l=>S l
 |.imm h _ _ _ _=>h
inductive OkP (M:lh):PL→Prop
 |int (k:Nat) (z:Int):OkP M (.int k z)
 |bool (b:Bool):OkP M (.bool b)
 |str (l:List Nat):OkP M (.str l)
 |nilP:OkP M .nilP
 |nilS:OkP M .nilS
 |nilM:OkP M .nilM
 |nilF:OkP M .nilF
 |nilI:OkP M .nilI
 |sint (k:Nat) (z:Int):OkP M (.sint k z)
 |sbool (p:Prop):OkP M (.sbool p)
 |sstr (l:List UInt8):OkP M (.sstr l)
 |imm {h:Value} {sz:Nat} {α:Type} {l:List α} {enc:α→List PL} (ao:Option Addr) (cap:Nat) (hh:h= .slice ao l.length cap) (h1:l.length≤cap) (h2:cap≤maxLen) (h3:0<sz)
   (ha:0<l.length→ao=some ⟨blk ao,ni ao,none⟩) (hl:∀x∈l,(enc x).length=sz) (ho:∀x∈l,∀p∈enc x,OkP M p)
   (hr:∀i x,l[i]?=some x→MRow M (blk ao) (ni ao+i*sz) ((enc x).map bD)):OkP M (.imm h sz α l enc)
def MLe (M M':lh):Prop:=∀b o,M b=some o→M' b=some o
theorem MLe.refl (M:lh):MLe M M:=fun _ _ h=>h
theorem MLe.trans {a b c:lh} (h:MLe a b) (k:MLe b c):MLe a c:=fun x o e=>k x o (h x o e)
theorem Ti {M M':lh} (h:MLe M M') {b o:Nat} {v:Value} (hm:gR M b o=some v):gR M' b o=some v:=by
 unfold gR at hm ⊢
 rcases e:M b with _|ob
 ·simp[e]at hm
 ·rw[h b ob e];rw[e]at hm;exact hm
theorem MRow.le {M M':lh} (h:MLe M M') {b o:Nat} {cs:List Value} (hm:MRow M b o cs):MRow M' b o cs:=fun j v hv=>Ti h (hm j v hv)
theorem OkP.mono {M M':lh} (h:MLe M M') {p:PL} (hp:OkP M p):OkP M' p:=by
 induction hp with
 |imm ao cap hh h1 h2 h3 ha hl ho hr ih=>exact .imm ao cap hh h1 h2 h3 ha hl ih (fun i x hx=>MRow.le h (hr i x hx))
 |int k z=>exact .int k z
 |bool b=>exact .bool b
 |str l=>exact .str l
 |nilP=>exact .nilP
 |nilS=>exact .nilS
 |nilM=>exact .nilM
 |nilF=>exact .nilF
 |nilI=>exact .nilI
 |sint k z=>exact .sint k z
 |sbool p=>exact .sbool p
 |sstr l=>exact .sstr l
open Classical in
noncomputable def gU (E:Env) (p:PL):Option Value:=if OkP E.M p then some (bD p) else none
open Classical in
noncomputable def pH (E:Env) (ps:List PL):Option (List Value):=if ∀p∈ps,OkP E.M p then some (ps.map bD) else none
theorem gy {E:Env} {p:PL} {x:Value} (h:gU E p=some x):OkP E.M p∧x=bD p:=by
 unfold gU at h
 split at h
 ·exact⟨‹_›,(acY h).symm⟩
 ·cases h
theorem jJ {E:Env} {p:PL} (h:OkP E.M p):gU E p=some (bD p):=by simp[gU,h]
theorem pG {E:Env} {ps:List PL} {xs:List Value} (h:pH E ps=some xs):(∀p∈ps,OkP E.M p)∧xs=ps.map bD:=by
 unfold pH at h
 split at h
 ·exact⟨‹_›,(acY h).symm⟩
 ·cases h
theorem ri {E:Env} {ps:List PL} (h:∀p∈ps,OkP E.M p):pH E ps=some (ps.map bD):=by unfold pH;rw[if_pos h]
structure dH where
 b:Nat
 cap:Nat
abbrev Ren:=Nat→Option dH
def Ren.Le (ρ ρ':Ren):Prop:=∀i e,ρ i=some e→ρ' i=some e
theorem Ren.Le.refl (ρ:Ren):ρ.Le ρ:=fun _ _ h=>h
theorem Ren.Le.trans {a b c:Ren} (h:a.Le b) (k:b.Le c):a.Le c:=fun i e he=>k i e (h i e he)
def Ren.set (ρ:Ren) (i:Nat) (e:dH):Ren:=fun j=>if j=i then some e else ρ j
theorem Ren.le_set {ρ:Ren} {i:Nat} (e:dH) (h:ρ i=none):ρ.Le (ρ.set i e):=by
 intro j f hj
 unfold Ren.set
 split
 ·rename_i hji;subst hji;rw[h]at hj;cases hj
 ·exact hj
theorem Ren.set_self (ρ:Ren) (i:Nat) (e:dH):ρ.set i e i=some e:=by simp[Ren.set]
theorem Ren.set_ne {ρ:Ren} {i j:Nat} (e:dH) (h:j≠i):ρ.set i e j=ρ j:=by simp[Ren.set,h]
def dc (e:dH):ACap→Nat
 |.ex n=>n
 |.rest k=>e.cap - k
def lj (e:dH) (n:Nat):Option Value:=match e.cap with
 |0=>if n=0 then some (.slice none 0 0) else none
 |c+1=>some (.slice (some ⟨e.b,0,none⟩) n c)
def EA (e:dH) (n c:Nat):Option Value:=match e.cap with
 |0=>if n=0∧c=0 then some (.slice none 0 0) else none
 |_+1=>some (.slice (some ⟨e.b,0,none⟩) n c)
def Ez (e:dH) (sz a n:Nat):Option Value:=match e.cap with
 |0=>if n=0∧a=0 then some (.slice none 0 0) else none
 |c+1=>if a+n≤c then some (.slice (some ⟨e.b,if c=a then 0 else a*sz,none⟩) n (c - a)) else none
open Classical in
noncomputable def bb (E:Env) (ρ:Ren):SY→Option Value
 |.int k z=>some (.int (aH k) z)
 |.bool p=>some (.bool (aC p))
 |.str l=>some (S l)
 |.imm h sz α l enc=>gU E (.imm h sz α l enc)
 |.pim b o cs=>if (∀p∈cs,OkP E.M p)∧MRow E.M b o (cs.map bD) then some (.pointer (some ⟨b,o,none⟩)) else none
 |.prow i n=>match ρ i with|some e=>lj e n|none=>none
 |.psub i sz a n=>match ρ i with|some e=>Ez e sz a n|none=>none
 |.pfix i n c=>match ρ i with|some e=>EA e n c|none=>none
 |.rptr i sz q o=>match ρ i with|some e=>some (.pointer (some ⟨e.b,q*sz+o,none⟩))|none=>none
 |.kmp i=>match ρ i with|some e=>some (.map (bif Nat.beq e.cap 0 then none else some e.b))|none=>none
mutual
noncomputable def den (E:Env) (ρ:Ren):AV→Option Value
 |.bad=>none
 |.int k z=>some (.int (aH k) z)
 |.bool b=>some (.bool b)
 |.str l=>some (S (l.map acX))
 |.ptr i o=>match ρ i with|some e=>some (.pointer (some ⟨e.b,o,none⟩))|none=>none
 |.sl i o n c=>match ρ i with|some e=>some (.slice (some ⟨e.b,o,none⟩) n (dc e c))|none=>none
 |.map i=>match ρ i with|some e=>some (.map (some e.b))|none=>none
 |.nilP=>some (.pointer none)
 |.nilS=>some (.slice none 0 0)
 |.nilM=>some (.map none)
 |.nilF=>some .nilFunc
 |.nilI=>some .nilIface
 |.iface t v=>match den E ρ v with|some x=>some (.iface t x)|none=>none
 |.fn f c=>match aJ E ρ c with|some cs=>some (.func (.func f) #[] cs.toArray)|none=>none
 |.yl i=>match ρ i with|some e=>some (.func (.yield e.b) #[] #[])|none=>none
 |.agg l=>match aJ E ρ l with|some cs=>some (.agg cs.toArray)|none=>none
 |.tup l=>match aJ E ρ l with|some cs=>some (.tuple cs.toArray)|none=>none
 |.any i=>match ρ i with|some _=>some (E i)|none=>none
 |.sy s=>bb E ρ s
noncomputable def aJ (E:Env) (ρ:Ren):List AV→Option (List Value)
 |[]=>some []
 |v::r=>match den E ρ v with
  |some x=>match aJ E ρ r with
   |some xs=>some (x::xs)
   |none=>none
  |none=>none
end
section
variable {E:Env} {ρ ρ':Ren}
theorem bh {v:AV} {r:List AV} {ys:List Value} (h:aJ E ρ (v::r)=some ys):∃x xs,den E ρ v=some x∧aJ E ρ r=some xs∧ys=x::xs:=by
 unfold aJ at h
 split at h
 ·rename_i x hx
  split at h
  ·rename_i xs hxs
   exact⟨x,xs,hx,hxs,(acY h).symm⟩
  ·cases h
 ·cases h
theorem bA {v:AV} {r:List AV} {x:Value} {xs:List Value} (h1:den E ρ v=some x) (h2:aJ E ρ r=some xs):aJ E ρ (v::r)=some (x::xs):=by
 simp[aJ,h1,h2]
theorem Rn (hl:ρ.Le ρ'):∀(s:SY) (x:Value),bb E ρ s=some x→bb E ρ' s=some x
 |.int k z,x,h=>h
 |.bool p,x,h=>h
 |.str l,x,h=>h
 |.imm ..,x,h=>h
 |.pim ..,x,h=>h
 |.prow i n,x,h=>by
  simp only[bb]at h ⊢
  rcases e:ρ i with _|e'
  ·rw[e]at h;cases h
  ·rw[e]at h;rw[hl i e' e];exact h
 |.psub i sz a n,x,h=>by
  simp only[bb]at h ⊢
  rcases e:ρ i with _|e'
  ·rw[e]at h;cases h
  ·rw[e]at h;rw[hl i e' e];exact h
 |.pfix i n c,x,h=>by
  simp only[bb]at h ⊢
  rcases e:ρ i with _|e'
  ·rw[e]at h;cases h
  ·rw[e]at h;rw[hl i e' e];exact h
 |.kmp i,x,h=>by
  simp only[bb]at h ⊢
  rcases e:ρ i with _|e'
  ·rw[e]at h;cases h
  ·rw[e]at h;rw[hl i e' e];exact h
 |.rptr i sz q o,x,h=>by
  simp only[bb]at h ⊢
  rcases e:ρ i with _|e'
  ·rw[e]at h;cases h
  ·rw[e]at h;rw[hl i e' e];exact h
mutual
theorem gP (hl:ρ.Le ρ'):∀(v:AV) (x:Value),den E ρ v=some x→den E ρ' v=some x
 |.bad,x,h=>by simp[den]at h
 |.int k z,x,h=>by simpa[den] using h
 |.bool b,x,h=>by simpa[den] using h
 |.str l,x,h=>by simpa[den] using h
 |.nilP,x,h=>by simpa[den] using h
 |.nilS,x,h=>by simpa[den] using h
 |.nilM,x,h=>by simpa[den] using h
 |.nilF,x,h=>by simpa[den] using h
 |.nilI,x,h=>by simpa[den] using h
 |.ptr i o,x,h=>by
  unfold den at h ⊢
  rcases e:ρ i with _|e'
  ·rw[e]at h;cases h
  ·rw[e]at h;rw[hl i e' e];exact h
 |.sl i o n c,x,h=>by
  unfold den at h ⊢
  rcases e:ρ i with _|e'
  ·rw[e]at h;cases h
  ·rw[e]at h;rw[hl i e' e];exact h
 |.map i,x,h=>by
  unfold den at h ⊢
  rcases e:ρ i with _|e'
  ·rw[e]at h;cases h
  ·rw[e]at h;rw[hl i e' e];exact h
 |.yl i,x,h=>by
  unfold den at h ⊢
  rcases e:ρ i with _|e'
  ·rw[e]at h;cases h
  ·rw[e]at h;rw[hl i e' e];exact h
 |.any i,x,h=>by
  unfold den at h ⊢
  rcases e:ρ i with _|e'
  ·rw[e]at h;cases h
  ·rw[e]at h;rw[hl i e' e];exact h
 |.sy s,x,h=>by
  unfold den at h ⊢
  exact Rn hl s x h
 |.iface t v,x,h=>by
  unfold den at h ⊢
  rcases e:den E ρ v with _|y
  ·rw[e]at h;cases h
  ·rw[e]at h;rw[gP hl v y e];exact h
 |.fn f c,x,h=>by
  unfold den at h ⊢
  rcases e:aJ E ρ c with _|y
  ·rw[e]at h;cases h
  ·rw[e]at h;rw[oO hl c y e];exact h
 |.agg c,x,h=>by
  unfold den at h ⊢
  rcases e:aJ E ρ c with _|y
  ·rw[e]at h;cases h
  ·rw[e]at h;rw[oO hl c y e];exact h
 |.tup c,x,h=>by
  unfold den at h ⊢
  rcases e:aJ E ρ c with _|y
  ·rw[e]at h;cases h
  ·rw[e]at h;rw[oO hl c y e];exact h
theorem oO (hl:ρ.Le ρ'):∀(l:List AV) (xs:List Value),aJ E ρ l=some xs→aJ E ρ' l=some xs
 |[],xs,h=>by simpa[aJ] using h
 |v::r,xs,h=>by
  obtain⟨x,ys,h1,h2,rfl⟩:=bh h
  exact bA (gP hl v x h1) (oO hl r ys h2)
end
structure Av (ρ:Ren) (E E':Env):Prop where
 at_:∀i e,ρ i=some e→E' i=E i
 mem:MLe E.M E'.M
theorem TN {E':Env} (hE:MLe E.M E'.M) {p:PL} {x:Value} (h:gU E p=some x):gU E' p=some x:=by
 obtain⟨h1,rfl⟩:=gy h
 exact jJ (h1.mono hE)
theorem Ro {E':Env} (hE:MLe E.M E'.M) {ps:List PL} {xs:List Value} (h:pH E ps=some xs):pH E' ps=some xs:=by
 obtain⟨h1,rfl⟩:=pG h
 exact ri fun p hp=>(h1 p hp).mono hE
theorem TL {E':Env} (hE:MLe E.M E'.M):∀(s:SY) (x:Value),bb E ρ s=some x→bb E' ρ s=some x
 |.int k z,x,h=>h
 |.bool p,x,h=>h
 |.str l,x,h=>h
 |.imm ..,x,h=>TN hE h
 |.pim b o cs,x,h=>by
  simp only[bb]at h ⊢
  split at h
  ·rename_i hc
   rw[if_pos ⟨fun p hp=>(hc.1 p hp).mono hE,MRow.le hE hc.2⟩];exact h
  ·cases h
 |.prow i n,x,h=>h
 |.psub ..,x,h=>h
 |.rptr ..,x,h=>h
 |.pfix ..,x,h=>h
 |.kmp _,x,h=>h
mutual
theorem mf {E':Env} (hE:Av ρ E E'):∀(v:AV) (x:Value),den E ρ v=some x→den E' ρ v=some x
 |.bad,_,h=>by simp[den]at h
 |.int _ _,_,h|.bool _,_,h|.str _,_,h|.nilP,_,h|.nilS,_,h|.nilM,_,h|.nilF,_,h|.nilI,_,h|.ptr _ _,_,h|.sl _ _ _ _,_,h|.map _,_,h|.yl _,_,h=>by simpa[den] using h
 |.any i,x,h=>by
  unfold den at h ⊢
  rcases e:ρ i with _|e'
  ·rw[e]at h;cases h
  ·rw[e]at h;rw[hE.at_ i e' e];exact h
 |.sy s,x,h=>by
  unfold den at h ⊢
  exact TL hE.mem s x h
 |.iface t v,x,h=>by
  unfold den at h ⊢
  rcases e:den E ρ v with _|y
  ·rw[e]at h;cases h
  ·rw[e]at h;rw[mf hE v y e];exact h
 |.fn f c,x,h=>by
  unfold den at h ⊢
  rcases e:aJ E ρ c with _|y
  ·rw[e]at h;cases h
  ·rw[e]at h;rw[rk hE c y e];exact h
 |.agg c,x,h=>by
  unfold den at h ⊢
  rcases e:aJ E ρ c with _|y
  ·rw[e]at h;cases h
  ·rw[e]at h;rw[rk hE c y e];exact h
 |.tup c,x,h=>by
  unfold den at h ⊢
  rcases e:aJ E ρ c with _|y
  ·rw[e]at h;cases h
  ·rw[e]at h;rw[rk hE c y e];exact h
theorem rk {E':Env} (hE:Av ρ E E'):∀(l:List AV) (xs:List Value),aJ E ρ l=some xs→aJ E' ρ l=some xs
 |[],xs,h=>by simpa[aJ] using h
 |v::r,xs,h=>by
  obtain⟨x,ys,h1,h2,rfl⟩:=bh h
  exact bA (mf hE v x h1) (rk hE r ys h2)
end
theorem cm:∀{l:List AV} {xs:List Value},aJ E ρ l=some xs→xs.length=l.length
 |[],xs,h=>by simp[aJ]at h;subst h;rfl
 |v::r,xs,h=>by
  obtain⟨x,ys,h1,h2,rfl⟩:=bh h
  simp[cm h2]
theorem dW:∀{l m:List AV} {xs ys:List Value},aJ E ρ l=some xs→aJ E ρ m=some ys→aJ E ρ (l++m)=some (xs++ys)
 |[],m,xs,ys,h,h2=>by simp[aJ]at h;subst h;simpa using h2
 |v::r,m,xs,ys,h,h2=>by
  obtain⟨x,zs,h3,h4,rfl⟩:=bh h
  exact bA h3 (dW h4 h2)
theorem ee:∀{l m:List AV} {zs:List Value},aJ E ρ (l++m)=some zs→∃xs ys,aJ E ρ l=some xs∧aJ E ρ m=some ys∧zs=xs++ys
 |[],m,zs,h=>⟨[],zs,by simp[aJ],by simpa using h,by simp⟩
 |v::r,m,zs,h=>by
  obtain⟨x,ws,h3,h4,rfl⟩:=bh (r:=r++m) h
  obtain⟨xs,ys,h5,h6,rfl⟩:=ee h4
  exact⟨x::xs,ys,bA h3 h5,h6,rfl⟩
theorem mj:∀{l:List AV} {xs:List Value} {i:Nat} {v:AV},aJ E ρ l=some xs→l[i]?=some v→∃x,den E ρ v=some x∧xs[i]?=some x
 |[],xs,i,v,h,hi=>by simp at hi
 |u::r,xs,0,v,h,hi=>by
  obtain⟨x,ys,h1,h2,rfl⟩:=bh h
  simp at hi;subst hi
  exact⟨x,h1,rfl⟩
 |u::r,xs,i+1,v,h,hi=>by
  obtain⟨x,ys,h1,h2,rfl⟩:=bh h
  obtain⟨y,h3,h4⟩:=mj h2 (by simpa using hi)
  exact⟨y,h3,by simpa using h4⟩
theorem mg {l:List AV} {xs:List Value} (n:Nat) (h:aJ E ρ l=some xs):aJ E ρ (l.take n)=some (xs.take n):=by
 have h':=h
 rw[←List.take_append_drop n l]at h'
 obtain⟨a,b,h1,h2,rfl⟩:=ee h'
 have:=cm h1
 have h3:=cm h
 rw[h1]
 by_cases hn:n≤l.length
 ·rw[acQ,Nat.min_eq_left hn]at this
  rw[List.take_left' this]
 ·rw[List.drop_eq_nil_of_le (by omega)]at h2
  simp[aJ]at h2
  subst h2
  simp only[List.append_nil]at h3 ⊢
  rw[List.take_of_length_le (by omega)]
theorem mh {l:List AV} {xs:List Value} (n:Nat) (h:aJ E ρ l=some xs):aJ E ρ (l.drop n)=some (xs.drop n):=by
 have h':=h
 rw[←List.take_append_drop n l]at h'
 obtain⟨a,b,h1,h2,rfl⟩:=ee h'
 have:=cm h1
 have h3:=cm h
 rw[h2]
 by_cases hn:n≤l.length
 ·rw[acQ,Nat.min_eq_left hn]at this
  rw[List.drop_left' this]
 ·have h4:b=[]:=by
   rw[List.drop_eq_nil_of_le (by omega)]at h2
   simpa[aJ] using h2.symm
  subst h4
  simp only[List.append_nil]at h3 ⊢
  rw[List.drop_eq_nil_of_le (by omega)]
end
section
variable {E:Env} {ρ:Ren}
noncomputable def zN (p:PL):AV:=PL.casesOn p (fun k z=>.int k z) (fun b=>.bool b) (fun l=>.str l) .nilP .nilS .nilM .nilF .nilI (fun k z=>.sy (.int k z)) (fun p=>.sy (.bool p)) (fun l=>.sy (.str l)) (fun h sz α l enc=>.sy (.imm h sz α l enc))
theorem LD {p:PL} (h:OkP E.M p):den E ρ (zN p)=some (bD p):=by
 cases p with
 |imm=>exact jJ h
 |_=>rfl
noncomputable def pa (l:List PL):List AV:=List.rec [] (fun p _ ih=>zN p::ih) l
theorem IM:∀{l:List PL},(∀p∈l,OkP E.M p)→aJ E ρ (pa l)=some (l.map bD)
 |[],_=>rfl
 |p::l,h=>bA (LD (h p (by simp))) (IM fun q hq=>h q (by simp[hq]))
end
noncomputable def df (ag:Bool) (ps:List PL):AV:=bif ag then .agg (pa ps) else zN (ps.headD .nilP)
theorem LF {E E':Env} {ρ ρ':Ren} (hM:E'.M=E.M) {p:PL} {x:Value} (h:den E ρ (zN p)=some x):den E' ρ' (zN p)=some x:=by
 cases p with
 |imm hv sz α l enc=>
  have h:gU E (.imm hv sz α l enc)=some x:=h
  show gU E' (.imm hv sz α l enc)=some x
  unfold gU at h ⊢
  rw[hM];exact h
 |_=>exact h
theorem IN {E E':Env} {ρ ρ':Ren} (hM:E'.M=E.M):∀{l:List PL} {xs:List Value},aJ E ρ (pa l)=some xs→aJ E' ρ' (pa l)=some xs
 |[],xs,h=>h
 |p::l,xs,h=>by
  have h:aJ E ρ (zN p::pa l)=some xs:=h
  show aJ E' ρ' (zN p::pa l)=some xs
  unfold aJ at h ⊢
  rcases h1:den E ρ (zN p) with _|y
  ·simp[h1]at h
  rcases h2:aJ E ρ (pa l) with _|ys
  ·simp[h1,h2]at h
  rw[LF hM h1,IN hM h2]
  rw[h1,h2]at h
  exact h
theorem IU {E E':Env} {ρ ρ':Ren} (hM:E'.M=E.M) {ag:Bool} {ps:List PL} {x:Value} (h:den E ρ (df ag ps)=some x):den E' ρ' (df ag ps)=some x:=by
 cases ag with
 |false=>exact LF hM h
 |true=>
  have h:den E ρ (.agg (pa ps))=some x:=h
  show den E' ρ' (.agg (pa ps))=some x
  unfold den at h ⊢
  rcases h2:aJ E ρ (pa ps) with _|ys
  ·simp[h2]at h
  rw[IN hM h2]
  rw[h2]at h
  exact h
inductive AObj:Type 1
 |blk (grow:Bool) (T sz:Nat) (els:List (List AV))
 |map (es:List (AV×AV×Nat)) (clock:Nat)
 |iter (m:Option Nat) (since:Nat) (seen:List Nat) (stepped:Nat)
 |defs
 |prow (T sz:Nat) (α:Type) (l:List α) (enc:α→List PL)
 |kmap (sure ak av:Bool) (α:Type) (l:List α) (k v:α→List PL)
noncomputable def bB (E:Env) (ρ:Ren):List (AV×AV×Nat)→Option (List MapEntry)
 |[]=>some []
 |(k,v,b)::r=>match den E ρ k,den E ρ v,bB E ρ r with
  |some x,some y,some es=>some (⟨x,y,b⟩::es)
  |_,_,_=>none
def ORel (E:Env) (ρ:Ren) (e:dH):AObj→Obj→Prop
 |.blk g T sz els,o=>(∀l∈els,l.length=sz)∧0<sz∧∃arr xs,o= .cells arr T (0,0)∧aJ E ρ els.flatten=some xs∧
   (bif g then arr.size=e.cap*sz∧arr.toList.take (els.length*sz)=xs∧els.length≤e.cap∧e.cap≤maxLen else arr.toList=xs)
 |.map es cl,o=>∃ms,bB E ρ es=some ms∧o= .map ms.toArray cl
 |.iter m since seen stepped,o=>∃mb,(match m with|none=>mb=none|some i=>∃f,ρ i=some f∧mb=some f.b)∧o= .mapIter mb since seen.toArray stepped
 |.defs,o=>o= .deferred (some [])
 |.prow T sz α l enc,o=>∃arr xs,o= .cells arr T (0,0)∧0<sz∧(∀x∈l,(enc x).length=sz)∧pH E (l.flatMap enc)=some xs∧arr.size=(e.cap - 1)*sz∧arr.toList.take (l.length*sz)=xs∧l.length≤e.cap - 1∧e.cap - 1≤maxLen
 |.kmap sure ak av α l k v,o=>∃es cl ms,es.map (fun e=>(e.1,e.2.1))=l.map (fun x=>(df ak (k x),df av (v x)))∧bB E ρ es=some ms∧o= .map ms.toArray cl
def cd (e:dH):AObj→Bool
 |.prow ..=> !Nat.beq e.cap 0
 |.kmap sure _ _ _ _ _ _=>sure|| !Nat.beq e.cap 0
 |_=>true
def Cf:AObj→Prop
 |.prow _ sz _ l _=>l=[]∧0<sz
 |.kmap sure _ _ _ l _ _=>sure=false∧l=[]
 |_=>False
theorem BF {E E':Env} {ρ:Ren} (hE:Av ρ E E'):∀(es:List (AV×AV×Nat)) (ms:List MapEntry),bB E ρ es=some ms→bB E' ρ es=some ms
 |[],ms,h=>by simpa[bB] using h
 |(k,v,b)::r,ms,h=>by
  unfold bB at h ⊢
  rcases h1:den E ρ k with _|x
  ·simp[h1]at h
  rcases h2:den E ρ v with _|y
  ·simp[h1,h2]at h
  rcases h3:bB E ρ r with _|zs
  ·simp[h1,h2,h3]at h
  rw[mf hE k x h1,mf hE v y h2,BF hE r zs h3]
  rw[h1,h2,h3]at h
  exact h
theorem ORel.env {E E':Env} {ρ:Ren} (hE:Av ρ E E') {e:dH}:∀{o:AObj} {ob:Obj},ORel E ρ e o ob→ORel E' ρ e o ob
 |.blk g T sz els,ob,⟨h0,h1,arr,xs,h2,h3,h4⟩=>⟨h0,h1,arr,xs,h2,rk hE _ _ h3,h4⟩
 |.map es cl,ob,⟨ms,h1,h2⟩=>⟨ms,BF hE _ _ h1,h2⟩
 |.iter none since seen stepped,ob,h=>h
 |.iter (some i) since seen stepped,ob,h=>h
 |.defs,ob,h=>h
 |.prow T sz α l enc,ob,⟨arr,xs,h1,h2,h3,h4,h5⟩=>⟨arr,xs,h1,h2,h3,Ro hE.mem h4,h5⟩
 |.kmap sure ak av α l k v,ob,⟨es,cl,ms,h1,h2,h3⟩=>⟨es,cl,ms,h1,BF hE _ _ h2,h3⟩
theorem Ke {E E':Env} {ρ ρ':Ren} (hM:E'.M=E.M) {α:Type} {ak av:Bool} {k v:α→List PL}:∀{l:List α} {es:List (AV×AV×Nat)} {ms:List MapEntry},es.map (fun e=>(e.1,e.2.1))=l.map (fun x=>(df ak (k x),df av (v x)))→bB E ρ es=some ms→bB E' ρ' es=some ms
 |[],[],ms,_,h=>h
 |[],_::_,ms,h1,_=>by simp at h1
 |_::_,[],ms,h1,_=>by simp at h1
 |x::l,(a,b,c)::es,ms,h1,h=>by
  simp only[acH,List.cons.injEq,Prod.mk.injEq]at h1
  obtain⟨⟨rfl,rfl⟩,h1⟩:=h1
  unfold bB at h ⊢
  rcases q1:den E ρ (df ak (k x)) with _|y
  ·simp[q1]at h
  rcases q2:den E ρ (df av (v x)) with _|z
  ·simp[q1,q2]at h
  rcases q3:bB E ρ es with _|zs
  ·simp[q1,q2,q3]at h
  rw[IU hM q1,IU hM q2,Ke hM h1 q3]
  rw[q1,q2,q3]at h
  exact h
theorem yj {E:Env} {ρ ρ':Ren} (hl:ρ.Le ρ'):∀(es:List (AV×AV×Nat)) (ms:List MapEntry),bB E ρ es=some ms→bB E ρ' es=some ms
 |[],ms,h=>by simpa[bB] using h
 |(k,v,b)::r,ms,h=>by
  unfold bB at h ⊢
  rcases h1:den E ρ k with _|x
  ·simp[h1]at h
  rcases h2:den E ρ v with _|y
  ·simp[h1,h2]at h
  rcases h3:bB E ρ r with _|zs
  ·simp[h1,h2,h3]at h
  rw[gP hl k x h1,gP hl v y h2,yj hl r zs h3]
  rw[h1,h2,h3]at h
  exact h
theorem ORel.mono {E:Env} {ρ ρ':Ren} (hl:ρ.Le ρ') {e:dH}:∀{o:AObj} {ob:Obj},ORel E ρ e o ob→ORel E ρ' e o ob
 |.blk g T sz els,ob,⟨h0,h1,arr,xs,h2,h3,h4⟩=>⟨h0,h1,arr,xs,h2,oO hl _ _ h3,h4⟩
 |.map es cl,ob,⟨ms,h1,h2⟩=>⟨ms,yj hl _ _ h1,h2⟩
 |.iter none since seen stepped,ob,h=>h
 |.iter (some i) since seen stepped,ob,⟨mb,⟨f,h1,h3⟩,h2⟩=>⟨mb,⟨f,hl _ _ h1,h3⟩,h2⟩
 |.defs,ob,h=>h
 |.prow T sz α l enc,ob,h=>h
 |.kmap sure ak av α l k v,ob,⟨es,cl,ms,h1,h2,h3⟩=>⟨es,cl,ms,h1,yj hl _ _ h2,h3⟩
inductive T:Type 1
 |leaf
 |node (l:T) (v:Option AObj) (r:T)
noncomputable def T.get (t:T):Nat→Option AObj:=
 T.rec (fun _=>none) (fun _ v _ gl gr n=>Nat.rec v (fun m _=>Bool.rec (gr (Nat.div m 2)) (gl (Nat.div m 2)) (Nat.beq (Nat.mod m 2) 0)) n) t
theorem T.get_leaf (n:Nat):T.leaf.get n=none:=rfl
theorem T.get_even (l:T) (v:Option AObj) (r:T) (m:Nat) (h:m % 2=0):(T.node l v r).get (m+1)=l.get (m / 2):=by
 show Bool.rec (motive:=fun _=>Option AObj) (T.get r (Nat.div m 2)) (T.get l (Nat.div m 2)) (Nat.beq (Nat.mod m 2) 0)=_
 rw[show Nat.mod m 2=0 from h];rfl
theorem T.get_odd (l:T) (v:Option AObj) (r:T) (m:Nat) (h:m % 2=1):(T.node l v r).get (m+1)=r.get (m / 2):=by
 show Bool.rec (motive:=fun _=>Option AObj) (T.get r (Nat.div m 2)) (T.get l (Nat.div m 2)) (Nat.beq (Nat.mod m 2) 0)=_
 rw[show Nat.mod m 2=1 from h];rfl
noncomputable def T.set (fuel:Nat):T→Nat→Option AObj→(T→Bool)→Bool:=
 Nat.rec (fun _ _ _ _=>false) (fun _ ih t n o K=>
  T.casesOn t
   (Nat.casesOn n (K (.node .leaf o .leaf)) fun m=>Bool.rec (ih .leaf (Nat.div m 2) o fun r=>K (.node .leaf none r)) (ih .leaf (Nat.div m 2) o fun l=>K (.node l none .leaf)) (Nat.beq (Nat.mod m 2) 0))
   (fun l v r=>Nat.casesOn n (K (.node l o r)) fun m=>Bool.rec (ih r (Nat.div m 2) o fun r'=>K (.node l v r')) (ih l (Nat.div m 2) o fun l'=>K (.node l' v r)) (Nat.beq (Nat.mod m 2) 0))) fuel
theorem T.set_ok:∀(fuel:Nat) (t:T) (n:Nat) (o:Option AObj) (K:T→Bool),T.set fuel t n o K=true→∃t',K t'=true∧t'.get n=o∧∀m,m≠n→t'.get m=t.get m
 |0,t,n,o,K,h=>by cases h
 |f+1,t,n,o,K,h=>by
  have half:∀m:Nat,m % 2=0∨m % 2=1:=fun m=>by omega
  have key:∀(l:T) (v:Option AObj) (r:T),(∀m,(T.node l v r).get m=t.get m)→
    Nat.casesOn (motive:=fun _=>Bool) n (K (.node l o r)) (fun m=>Bool.rec (T.set f r (Nat.div m 2) o fun r'=>K (.node l v r')) (T.set f l (Nat.div m 2) o fun l'=>K (.node l' v r)) (Nat.beq (Nat.mod m 2) 0))=true→
    ∃t',K t'=true∧t'.get n=o∧∀m,m≠n→t'.get m=t.get m:=by
   intro l v r hg h
   cases n with
   |zero=>
    refine⟨_,h,rfl,fun m hm=> ?_⟩
    rw[←hg]
    cases m with
    |zero=>exact absurd rfl hm
    |succ m=>
     rcases half m with e|e
     ·rw[T.get_even _ _ _ _ e,T.get_even _ _ _ _ e]
     ·rw[T.get_odd _ _ _ _ e,T.get_odd _ _ _ _ e]
   |succ n=>
    rcases half n with e|e
    ·have h':T.set f l (n / 2) o (fun l'=>K (.node l' v r))=true:=by
      have:Nat.beq (Nat.mod n 2) 0=true:=by rw[show Nat.mod n 2=0 from e];rfl
      simp only[this]at h
      exact h
     obtain⟨l',h1,h2,h3⟩:=T.set_ok f _ _ _ _ h'
     refine⟨_,h1,by rw[T.get_even _ _ _ _ e];exact h2,fun m hm=> ?_⟩
     rw[←hg]
     cases m with
     |zero=>rfl
     |succ m=>
      rcases half m with e'|e'
      ·rw[T.get_even _ _ _ _ e',T.get_even _ _ _ _ e']
       exact h3 _ (fun q=>hm (by omega))
      ·rw[T.get_odd _ _ _ _ e',T.get_odd _ _ _ _ e']
    ·have h':T.set f r (n / 2) o (fun r'=>K (.node l v r'))=true:=by
      have:Nat.beq (Nat.mod n 2) 0=false:=by rw[show Nat.mod n 2=1 from e];rfl
      simp only[this]at h
      exact h
     obtain⟨l',h1,h2,h3⟩:=T.set_ok f _ _ _ _ h'
     refine⟨_,h1,by rw[T.get_odd _ _ _ _ e];exact h2,fun m hm=> ?_⟩
     rw[←hg]
     cases m with
     |zero=>rfl
     |succ m=>
      rcases half m with e'|e'
      ·rw[T.get_even _ _ _ _ e',T.get_even _ _ _ _ e']
      ·rw[T.get_odd _ _ _ _ e',T.get_odd _ _ _ _ e']
       exact h3 _ (fun q=>hm (by omega))
  cases t with
  |leaf=>
   refine key .leaf none .leaf (fun m=> ?_) h
   cases m with
   |zero=>rfl
   |succ m=>
    rcases half m with e|e
    ·rw[T.get_even _ _ _ _ e];rfl
    ·rw[T.get_odd _ _ _ _ e];rfl
  |node l v r=>exact key l v r (fun _=>rfl) h
def Tied (M:lh):Prop:=(∃T fz,M 1=some (.cells (Lib.pow10Tab.map fun z=>Value.int .u64 z).toArray T fz))∧(∃t p T fz,M 4=some (.cells #[.iface t p] T fz))∧(∃t p T fz,M 5=some (.cells #[.iface t p] T fz))∧∃m T fz,M 0=some (.cells #[.int .i64 m] T fz)
theorem Tied.mono {M M':lh} (h:MLe M M') (t:Tied M):Tied M':=by
 obtain⟨⟨T,fz,h2⟩,⟨t1,p1,T1,f1,h3⟩,⟨t2,p2,T2,f2,h4⟩,m,T3,f3,h5⟩:=t
 exact⟨⟨T,fz,h _ _ h2⟩,⟨t1,p1,T1,f1,h _ _ h3⟩,⟨t2,p2,T2,f2,h _ _ h4⟩,m,T3,f3,h _ _ h5⟩
theorem Tied.gvar {P:Program} {G:GS} (hp:P.globalNamed "internal/strconv.uint64pow10" =some 1) (t:Tied G.M):GVar P "internal/strconv.uint64pow10" (Lib.pow10Tab.map fun z=>Value.int .u64 z).toArray G:=by
 obtain⟨⟨T,fz,h2⟩,_⟩:=t
 exact⟨1,T,fz,hp,h2⟩
structure Sim (E:Env) (ρ:Ren) (G:GS) (F:List aA) (M:T) (nx:Nat) (w:World):Prop where
 ex:∃c:aA,Holds {G with M:=E.M} w (c::F)∧(∀i o,M.get i=some o→∃e,ρ i=some e∧((cd e o=true∧∃ob,(e.b,ob)∈c∧ORel E ρ e o ob)∨(cd e o=false∧Cf o)))∧
  (∀i j e f o o',M.get i=some o→M.get j=some o'→ρ i=some e→ρ j=some f→cd e o=true→cd f o'=true→e.b=f.b→i=j)
 mem:MLe G.M E.M
 fresh:∀i,nx≤i→ρ i=none
section
variable {E:Env} {ρ:Ren} {G:GS} {F:List aA} {M:T} {nx:Nat} {w:World}
theorem Sim.gone (h:Sim E ρ G F M nx w) {i:Nat} (hi:ρ i=none):M.get i=none:=by
 obtain⟨c,_,ho,_⟩:=h.ex
 rcases e:M.get i with _|o
 ·rfl
 ·obtain⟨f,h1,_⟩:=ho i o e
  rw[hi]at h1;cases h1
theorem Sim.obj (h:Sim E ρ G F M nx w) {i:Nat} {o:AObj} (hi:M.get i=some o) (hb:∀e,cd e o=true:=by intro e;rfl):∃e ob,ρ i=some e∧w.heap[e.b]?=some ob∧ORel E ρ e o ob:=by
 obtain⟨c,hh,ho,_⟩:=h.ex
 obtain⟨e,h1,⟨_,ob,h2,h3⟩|⟨q,_⟩⟩:=ho i o hi
 ·exact⟨e,ob,h1,hh.own (e.b,ob) (by simp only[acG,acP];exact .inl h2),h3⟩
 ·rw[hb e]at q;cases q
theorem Sim.objP (h:Sim E ρ G F M nx w) {i:Nat} {o:AObj} (hi:M.get i=some o):∃e,ρ i=some e∧((cd e o=true∧∃ob,w.heap[e.b]?=some ob∧ORel E ρ e o ob)∨(cd e o=false∧Cf o)):=by
 obtain⟨c,hh,ho,_⟩:=h.ex
 obtain⟨e,h1,⟨q,ob,h2,h3⟩|q⟩:=ho i o hi
 ·exact⟨e,h1,.inl ⟨q,ob,hh.own (e.b,ob) (by simp only[acG,acP];exact .inl h2),h3⟩⟩
 ·exact⟨e,h1,.inr q⟩
theorem Sim.start (hm:E.M=G.M) (hh:Holds G w F):Sim E (fun _=>none) G F T.leaf 0 w:=
 ⟨⟨[],by rw[hm];exact hh.nil,fun i o h=>by simp[T.get_leaf]at h,fun i j e f o o' h=>by simp[T.get_leaf]at h⟩,by rw[hm];exact MLe.refl _,fun _ _=>rfl⟩
theorem Sim.cellM (h:Sim E ρ G F M nx w) {b o:Nat} {v:Value} (hm:gR E.M b o=some v):w.cell? ⟨b,o,none⟩=some v:=by
 obtain⟨c,hh,_⟩:=h.ex
 exact hh.cellM (G:={G with M:=E.M}) hm
theorem Sim.alloc (h:Sim E ρ G F M nx w) {i nx' cap:Nat} {o:AObj} {ob:Obj} {M':T} (hi:ρ i=none) (hn:nx≤nx') (hin:i<nx') (hr:ORel E ρ ⟨w.heap.size,cap⟩ o ob)
  (h1:M'.get i=some o) (h2:∀m,m≠i→M'.get m=M.get m) (hB:cd ⟨w.heap.size,cap⟩ o=true:=by rfl):Sim E (ρ.set i ⟨w.heap.size,cap⟩) G F M' nx' (w.alloc ob):=by
 have hg:=h.gone hi
 obtain⟨c,hh,ho,hj⟩:=h.ex
 have hle:=Ren.le_set (ρ:=ρ) ⟨w.heap.size,cap⟩ hi
 have hlt:∀j o',M.get j=some o'→∀e,ρ j=some e→cd e o'=true→e.b<w.heap.size:=by
  intro j o' hj' e he hb
  obtain⟨f,hf,⟨_,ob',hm,_⟩|⟨q,_⟩⟩:=ho j o' hj'
  ·rw[he]at hf;cases hf
   exact bu (hh.own (e.b,ob') (by simp only[acG,acP];exact .inl hm))
  ·rw[he]at hf;cases hf
   rw[hb]at q;cases q
 refine⟨⟨(w.heap.size,ob)::c,(hh.alloc ob).perm (by simp),fun j o' hj'=> ?_,fun j k e f o1 o2 hj1 hk1 he hf hb1 hb2 hb=> ?_⟩,h.mem,fun j hjn=> ?_⟩
 ·by_cases e:j=i
  ·subst e
   rw[h1]at hj';cases hj'
   exact⟨_,Ren.set_self _ _ _,.inl ⟨hB,ob,by simp,hr.mono hle⟩⟩
  ·rw[h2 j e]at hj'
   obtain⟨f,a1,⟨a0,ob',a2,a3⟩|q⟩:=ho j o' hj'
   ·exact⟨f,hle _ _ a1,.inl ⟨a0,ob',by simp[a2],a3.mono hle⟩⟩
   ·exact⟨f,hle _ _ a1,.inr q⟩
 ·by_cases e1:j=i
  ·by_cases e2:k=i
   ·omega
   ·exfalso
    subst e1
    rw[Ren.set_self]at he;cases he
    rw[Ren.set_ne _ e2]at hf
    rw[h2 k e2]at hk1
    have:=hlt k o2 hk1 f hf hb2
    simp only at hb
    omega
  ·by_cases e2:k=i
   ·exfalso
    subst e2
    rw[Ren.set_self]at hf;cases hf
    rw[Ren.set_ne _ e1]at he
    rw[h2 j e1]at hj1
    have:=hlt j o1 hj1 e he hb1
    simp only at hb
    omega
   ·rw[Ren.set_ne _ e1]at he
    rw[Ren.set_ne _ e2]at hf
    rw[h2 j e1]at hj1
    rw[h2 k e2]at hk1
    exact hj j k e f o1 o2 hj1 hk1 he hf hb1 hb2 hb
 ·rw[Ren.set_ne _ (by omega)]
  exact h.fresh j (by omega)
def AH (b:Nat) (ob:Obj) (c:aA):aA:=c.map fun p=>if p.1=b then (b,ob) else p
theorem PV (b:Nat) (ob:Obj) (c:aA):(AH b ob c).map (·.1)=c.map (·.1):=by
 unfold AH
 rw[List.map_map]
 refine List.map_congr_left fun p _=> ?_
 simp only[Function.comp]
 split
 ·rename_i h;exact h.symm
 ·rfl
theorem Tf {b:Nat} {ob:Obj} {c:aA} {p:Nat×Obj} (h:p∈AH b ob c):p=(b,ob)∨(p∈c∧p.1≠b):=by
 unfold AH at h
 obtain⟨q,hq,rfl⟩:=List.mem_map.1 h
 split
 ·exact .inl rfl
 ·rename_i hne;exact .inr ⟨hq,hne⟩
theorem Sw {b:Nat} {ob o:Obj} {c:aA} (h:(b,o)∈c):(b,ob)∈AH b ob c:=List.mem_map.2 ⟨(b,o),h,by simp⟩
theorem Sv {b:Nat} {ob:Obj} {c:aA} {p:Nat×Obj} (h:p∈c) (hne:p.1≠b):p∈AH b ob c:=List.mem_map.2 ⟨p,h,by simp[hne]⟩
theorem Sim.turn (h:Sim E ρ G F M nx w) {i:Nat} {o o':AObj} {e:dH} {ob':Obj} {M':T} {w':World} (hi:M.get i=some o) (he:ρ i=some e) (hos:w'.os=w.os) (ht:w'.tape=w.tape) (hou:w'.output=w.output)
  (hel:∀b,b<w.heap.size→b≠e.b→w'.heap[b]?=w.heap[b]?) (hob:w'.heap[e.b]?=some ob') (hr:ORel E ρ e o' ob')
  (h1:M'.get i=some o') (h2:∀m,m≠i→M'.get m=M.get m) (hB:cd e o=true:=by rfl) (hB':cd e o'=true:=by rfl):Sim E ρ G F M' nx w':=by
 obtain⟨c,hh,ho,hj⟩:=h.ex
 obtain⟨f,a1,⟨_,ob,a2,a3⟩|⟨q,_⟩⟩:=ho i o hi
 case inr=>rw[he]at a1;cases a1;rw[hB]at q;cases q
 rw[he]at a1;cases a1
 refine⟨⟨AH e.b ob' c,hh.turn hos ht hou (PV _ _ _) (fun b hb hn=>hel b hb fun q=>hn (q▸List.mem_map.2 ⟨_,a2,rfl⟩)) (fun p hp=> ?_),fun j o2 hj2=> ?_,fun j k e' f' o1 o2 hj1 hk1 he1 hf1 hb1 hb2=> ?_⟩,h.mem,h.fresh⟩
 ·rcases Tf hp with rfl|⟨hp,hne⟩
  ·exact hob
  ·have:=hh.own p (by simp only[acG,acP];exact .inl hp)
   rw[hel p.1 (bu this) hne];exact this
 ·by_cases q:j=i
  ·subst q
   rw[h1]at hj2;cases hj2
   exact⟨e,he,.inl ⟨hB',ob',Sw a2,hr⟩⟩
  ·rw[h2 j q]at hj2
   obtain⟨f',b1,⟨b0,ob2,b2,b3⟩|b4⟩:=ho j o2 hj2
   ·refine⟨f',b1,.inl ⟨b0,ob2,Sv b2 fun hb=>q ?_,b3⟩⟩
    exact hj j i f' e _ _ hj2 hi b1 he b0 hB hb
   ·exact⟨f',b1,.inr b4⟩
 ·by_cases q1:j=i
  ·by_cases q2:k=i
   ·intro _;rw[q1,q2]
   ·subst q1
    rw[h1]at hj1;cases hj1
    rw[h2 k q2]at hk1
    rw[he]at he1;cases he1
    exact hj j k e f' _ _ hi hk1 he hf1 hB hb2
  ·by_cases q2:k=i
   ·subst q2
    rw[h1]at hk1;cases hk1
    rw[h2 j q1]at hj1
    rw[he]at hf1;cases hf1
    exact hj j k e' e _ _ hj1 hi he1 he hb1 hB
   ·rw[h2 j q1]at hj1
    rw[h2 k q2]at hk1
    exact hj j k e' f' _ _ hj1 hk1 he1 hf1 hb1 hb2
theorem Sim.regrow (h:Sim E ρ G F M nx w) {i j nx' cap:Nat} {old:Option Nat} {o':AObj} {b':Nat} {ob':Obj} {M':T} {w':World} (hj:ρ j=none) (hn:nx≤nx') (hjn:j<nx')
  (hold:∀b,old=some b→∃e o,M.get i=some o∧ρ i=some e∧e.b=b∧cd e o=true) (hg:w.grownBy w' old) (hw:w'.heap[b']?=some ob') (hb':old=some b'∨w.heap.size≤b') (hr:ORel E ρ ⟨b',cap⟩ o' ob')
  (h1:M'.get j=some o') (h2:∀m,m≠j→m≠i→M'.get m=M.get m) (h3:i≠j→M'.get i=none) (hB':cd ⟨b',cap⟩ o'=true:=by rfl):Sim E (ρ.set j ⟨b',cap⟩) G F M' nx' w':=by
 have hgone:=h.gone hj
 obtain⟨c,hh,ho,hinj⟩:=h.ex
 have hle:=Ren.le_set (ρ:=ρ) ⟨b',cap⟩ hj
 have hF:=hh.drop
 have hn0:=hh.nodup
 simp only[acG,acO]at hn0
 have hdis:=(List.nodup_append.1 hn0).2.2
 have hcn:=(List.nodup_append.1 hn0).1
 have hblk:∀p∈c,p.1<w.heap.size:=fun p hp=>bu (hh.own p (by simp only[acG,acP];exact .inl hp))
 have hkeep:∀b,b<w.heap.size→old≠some b→w'.heap[b]?=w.heap[b]?:=fun b hb hne=>hg.block b hb (fun e=>hne e.symm)
 have holdc:∀b,old=some b→b∈c.map (·.1):=by
  intro b hb
  obtain⟨e,o,m1,m2,m3,m4⟩:=hold b hb
  obtain⟨f,a1,⟨_,ob,a2,_⟩|⟨q,_⟩⟩:=ho i o m1
  ·rw[m2]at a1;cases a1
   exact List.mem_map.2 ⟨_,a2,m3⟩
  ·rw[m2]at a1;cases a1
   rw[m4]at q;cases q
 have hnotM:∀b o2,E.M b=some o2→old≠some b:=by
  intro b o2 hM hb
  obtain⟨p,hp,hpb⟩:=List.mem_map.1 (holdc b hb)
  have:=hh.apart p (by simp only[acG,acP];exact .inl hp)
  rw[hpb]at this
  have:E.M b=none:=this
  rw[hM]at this;cases this
 have hc':∀p,p∈c.filter (fun p=>decide (old≠some p.1))→p∈c∧old≠some p.1:=fun p hp=>by
  have:=List.mem_filter.1 hp
  exact⟨this.1,by simpa using this.2⟩
 refine⟨⟨(b',ob')::c.filter (fun p=>decide (old≠some p.1)),⟨hg.os.trans hh.os,hg.tape.trans hh.tape,hg.output.trans hh.output,fun b o2 hM=> ?_,fun p hp=> ?_,?_,fun p hp=> ?_⟩,fun k o2 hk=> ?_,fun k l e f o1 o2 hk hl he hf hb1 hb2 hb=> ?_⟩,h.mem,fun k hk=> ?_⟩
 ·have hM':E.M b=some o2:=hM
  have:=hh.mem b o2 hM
  rw[hkeep b (bu this) (hnotM b o2 hM')];exact this
 ·simp only[acG,acI,List.mem_cons,acP]at hp
  rcases hp with rfl|hp|hp
  ·exact hw
  ·obtain⟨hp1,hp2⟩:=hc' p hp
   have:=hh.own p (by simp only[acG,acP];exact .inl hp1)
   rw[hkeep p.1 (bu this) hp2];exact this
  ·have:=hF.own p hp
   rw[hkeep p.1 (bu this) fun e=>hdis _ (holdc _ e) _ (List.mem_map_of_mem hp) rfl];exact this
 ·simp only[acG,acI,acH,acO,List.nodup_cons]
  refine⟨fun hm=> ?_,?_⟩
  ·rcases acP.1 hm with hm|hm
   ·obtain⟨p,hp,hpb⟩:=List.mem_map.1 hm
    obtain⟨hp1,hp2⟩:=hc' p hp
    rcases hb' with e|e
    ·exact hp2 (hpb▸e)
    ·have:=hblk p hp1;omega
   ·obtain⟨p,hp,hpb⟩:=List.mem_map.1 hm
    rcases hb' with e|e
    ·exact hdis _ (holdc _ e) _ (List.mem_map_of_mem hp) hpb.symm
    ·have:=bu (hF.own p hp);omega
  ·refine List.nodup_append.2 ⟨?_,hF.nodup,fun x hx y hy=> ?_⟩
   ·exact hcn.sublist (List.Sublist.map _ List.filter_sublist)
   ·refine hdis x ?_ y hy
    obtain⟨p,hp,rfl⟩:=List.mem_map.1 hx
    exact List.mem_map_of_mem (hc' p hp).1
 ·simp only[acG,acI,List.mem_cons,acP]at hp
  show E.M p.1=none
  rcases hp with rfl|hp|hp
  ·rcases e:E.M b' with _|o2
   ·rfl
   ·rcases hb' with q|q
    ·exact absurd q (hnotM b' o2 e)
    ·have:=bu (hh.mem b' o2 e);omega
  ·exact hh.apart p (by simp only[acG,acP];exact .inl (hc' p hp).1)
  ·exact hF.apart p hp
 ·by_cases q:k=j
  ·subst q
   rw[h1]at hk;cases hk
   exact⟨_,Ren.set_self _ _ _,.inl ⟨hB',ob',by simp,hr.mono hle⟩⟩
  ·by_cases q2:k=i
   ·subst q2
    rw[h3 q]at hk;cases hk
   ·rw[h2 k q q2]at hk
    obtain⟨f,a1,⟨a0,ob2,a2,a3⟩|a4⟩:=ho k o2 hk
    ·refine⟨f,hle _ _ a1,.inl ⟨a0,ob2,?_,a3.mono hle⟩⟩
     refine List.mem_cons_of_mem _ (List.mem_filter.2 ⟨a2,?_⟩)
     simp only[decide_eq_true_eq]
     intro hb
     obtain⟨e,o,m1,m2,m3,m4⟩:=hold _ hb
     exact q2 (hinj k i f e _ _ hk m1 a1 m2 a0 m4 m3.symm)
    ·exact⟨f,hle _ _ a1,.inr a4⟩
 ·have nb:∀m f' om,M.get m=some om→m≠i→ρ m=some f'→cd f' om=true→f'.b≠b':=by
   intro m f' om hm hmi hf' hbm hbb
   obtain⟨f2,a1,⟨_,ob2,a2,_⟩|⟨q,_⟩⟩:=ho m om hm
   ·rw[hf']at a1;cases a1
    rcases hb' with q|q
    ·obtain⟨e,o,m1,m2,m3,m4⟩:=hold _ q
     exact hmi (hinj m i f' e _ _ hm m1 hf' m2 hbm m4 (by rw[m3];exact hbb))
    ·have:=hblk _ a2
     simp only at this
     omega
   ·rw[hf']at a1;cases a1
    rw[hbm]at q;cases q
  by_cases q1:k=j
  ·by_cases q2:l=j
   ·omega
   ·exfalso
    subst q1
    rw[Ren.set_self]at he;cases he
    rw[Ren.set_ne _ q2]at hf
    by_cases q3:l=i
    ·subst q3;rw[h3 q2]at hl;cases hl
    ·rw[h2 l q2 q3]at hl
     exact nb l f _ hl q3 hf hb2 hb.symm
  ·by_cases q2:l=j
   ·exfalso
    subst q2
    rw[Ren.set_self]at hf;cases hf
    rw[Ren.set_ne _ q1]at he
    by_cases q3:k=i
    ·subst q3;rw[h3 q1]at hk;cases hk
    ·rw[h2 k q1 q3]at hk
     exact nb k e _ hk q3 he hb1 hb
   ·rw[Ren.set_ne _ q1]at he
    rw[Ren.set_ne _ q2]at hf
    by_cases q3:k=i
    ·subst q3;rw[h3 q1]at hk;cases hk
    ·by_cases q4:l=i
     ·subst q4;rw[h3 q2]at hl;cases hl
     ·rw[h2 k q1 q3]at hk
      rw[h2 l q2 q4]at hl
      exact hinj k l e f _ _ hk hl he hf hb1 hb2 hb
 ·rw[Ren.set_ne _ (by omega)]
  exact h.fresh k (by omega)
theorem Sim.ext (h:Sim E ρ G F M nx w) {w':World} (hb:Below w.heap.size w w'):Sim E ρ G F M nx w':=by
 obtain⟨c,hh,ho,hj⟩:=h.ex
 exact⟨⟨c,hh.ext hb,ho,hj⟩,h.mem,h.fresh⟩
theorem Sim.drawn (h:Sim E ρ G F M nx w):Sim E ρ G F M nx {w with drawn:=w.drawn+1}:=by
 obtain⟨c,hh,ho,hj⟩:=h.ex
 exact⟨⟨c,hh.drawn,ho,hj⟩,h.mem,h.fresh⟩
theorem Sim.holds (h:Sim E ρ G F M nx w):∃G',G.Le G'∧Holds G' w F∧G'.M=E.M:=by
 obtain⟨c,hh,_⟩:=h.ex
 exact⟨{G with M:=E.M},⟨rfl,rfl,rfl,h.mem⟩,hh.drop,rfl⟩
end
inductive SL
 |nil
 |cons (t:Nat) (v:AV) (r:SL)
 |mark (i:Nat) (r:SL)
noncomputable def bv (t:Nat) (S:SL):AV:=SL.rec .bad (fun k v _ ih=>Bool.rec ih v (Nat.beq k t)) (fun _ _ ih=>ih) S
theorem io (t:Nat) (v:AV) (r:SL):bv t (.cons t v r)=v:=by
 show Bool.rec (motive:=fun _=>AV) (bv t r) v (Nat.beq t t)=v
 rw[Nat.beq_refl]
theorem kP {t k:Nat} (v:AV) (r:SL) (h:k≠t):bv t (.cons k v r)=bv t r:=by
 show Bool.rec (motive:=fun _=>AV) (bv t r) v (Nat.beq k t)=bv t r
 have:Nat.beq k t=false:=by
  cases hb:Nat.beq k t with
  |false=>rfl
  |true=>exact absurd (acE hb) h
 rw[this]
def DRel (ρ:Ren):List Nat→List Deferred→Prop
 |[],ds=>ds=[]
 |i::r,ds=>∃e ds',ρ i=some e∧ds={target:=.collected e.b,args:= #[]}::ds'∧DRel ρ r ds'
theorem DRel.mono {ρ ρ':Ren} (hl:ρ.Le ρ'):∀{l:List Nat} {ds:List Deferred},DRel ρ l ds→DRel ρ' l ds
 |[],_,h=>h
 |_::_,_,⟨e,ds',h1,h2,h3⟩=>⟨e,ds',hl _ _ h1,h2,h3.mono hl⟩
section
variable {E:Env} {ρ ρ':Ren} {N:Nat} {S:SL} {a:Act}
end
def Good (P:Program) (Tg:Machine→Prop) (m:Machine):Prop:=∃m',Steps P m m'∧Tg m'
theorem Good.step {P:Program} {Tg:Machine→Prop} {m m1:Machine} (h:step P m= .next m1) (g:Good P Tg m1):Good P Tg m:=by
 obtain⟨m',h1,h2⟩:=g
 exact⟨m',.head h h1,h2⟩
noncomputable def fN (n:Nat) (K:Nat→Bool):Bool:=Nat.rec (K 0) (fun m _=>K (Nat.succ m)) n
theorem bX (n:Nat) (K:Nat→Bool):fN n K=K n:=by cases n<;>rfl
noncomputable def fI (z:Int) (K:Int→Bool):Bool:=Int.casesOn z (fun n=>fN n fun n=>K (.ofNat n)) (fun n=>fN n fun n=>K (.negSucc n))
theorem zr (z:Int) (K:Int→Bool):fI z K=K z:=by
 cases z with
 |ofNat n=>exact bX n fun n=>K (.ofNat n)
 |negSucc n=>exact bX n fun n=>K (.negSucc n)
noncomputable def fB (b:Bool) (K:Bool→Bool):Bool:=Bool.rec (K false) (K true) b
theorem sF (b:Bool) (K:Bool→Bool):fB b K=K b:=by cases b<;>rfl
noncomputable def aY (b:Bool) (x y:Bool):Bool:=Bool.rec y x b
theorem CR (b x y:Bool):aY b x y=bif b then x else y:=by cases b<;>rfl
theorem aX {b x y:Bool} (h:aY b x y=true):(b=true∧x=true)∨(b=false∧y=true):=by
 cases b
 ·exact .inr ⟨rfl,h⟩
 ·exact .inl ⟨rfl,h⟩
noncomputable def ac (b:Bool) (x:Bool):Bool:=Bool.rec false x b
theorem ai {b x:Bool} (h:ac b x=true):b=true∧x=true:=by
 cases b
 ·cases h
 ·exact⟨rfl,h⟩
noncomputable def jc (v:AV) (K:Nat→Int→Bool):Bool:=AV.casesOn v false K (fun _=>false) (fun _=>false) (fun _ _=>false) (fun _ _ _ _=>false) (fun _=>false) false false false false false (fun _ _=>false) (fun _ _=>false) (fun _=>false) (fun _=>false) (fun _=>false) (fun _=>false) (fun _=>false)
theorem iS {v:AV} {K:Nat→Int→Bool} (h:jc v K=true):∃k z,v= .int k z∧K k z=true:=by cases v<;>first|exact⟨_,_,rfl,h⟩|cases h
noncomputable def MR (v:AV) (K:Bool→Bool):Bool:=AV.casesOn v false (fun _ _=>false) K (fun _=>false) (fun _ _=>false) (fun _ _ _ _=>false) (fun _=>false) false false false false false (fun _ _=>false) (fun _ _=>false) (fun _=>false) (fun _=>false) (fun _=>false) (fun _=>false) (fun _=>false)
theorem Do {v:AV} {K:Bool→Bool} (h:MR v K=true):∃b,v= .bool b∧K b=true:=by cases v<;>first|exact⟨_,rfl,h⟩|cases h
noncomputable def mW (v:AV) (K:List Nat→Bool):Bool:=AV.casesOn v false (fun _ _=>false) (fun _=>false) K (fun _ _=>false) (fun _ _ _ _=>false) (fun _=>false) false false false false false (fun _ _=>false) (fun _ _=>false) (fun _=>false) (fun _=>false) (fun _=>false) (fun _=>false) (fun _=>false)
theorem iF {v:AV} {K:List Nat→Bool} (h:mW v K=true):∃l,v= .str l∧K l=true:=by cases v<;>first|exact⟨_,rfl,h⟩|cases h
noncomputable def mX (v:AV) (K:Nat→Nat→Bool):Bool:=AV.casesOn v false (fun _ _=>false) (fun _=>false) (fun _=>false) K (fun _ _ _ _=>false) (fun _=>false) false false false false false (fun _ _=>false) (fun _ _=>false) (fun _=>false) (fun _=>false) (fun _=>false) (fun _=>false) (fun _=>false)
theorem iG {v:AV} {K:Nat→Nat→Bool} (h:mX v K=true):∃i o,v= .ptr i o∧K i o=true:=by cases v<;>first|exact⟨_,_,rfl,h⟩|cases h
noncomputable def rm (v:AV) (K0:Bool) (K:Nat→Nat→Nat→ACap→Bool):Bool:=AV.casesOn v false (fun _ _=>false) (fun _=>false) (fun _=>false) (fun _ _=>false) K (fun _=>false) false K0 false false false (fun _ _=>false) (fun _ _=>false) (fun _=>false) (fun _=>false) (fun _=>false) (fun _=>false) (fun _=>false)
theorem jK {v:AV} {K0:Bool} {K:Nat→Nat→Nat→ACap→Bool} (h:rm v K0 K=true):(v= .nilS∧K0=true)∨∃i o n c,v= .sl i o n c∧K i o n c=true:=by
 cases v<;>first|exact .inr ⟨_,_,_,_,rfl,h⟩|exact .inl ⟨rfl,h⟩|cases h
noncomputable def sJ (v:AV) (K0:Bool) (K:Nat→Bool):Bool:=AV.casesOn v false (fun _ _=>false) (fun _=>false) (fun _=>false) (fun _ _=>false) (fun _ _ _ _=>false) K false false K0 false false (fun _ _=>false) (fun _ _=>false) (fun _=>false) (fun _=>false) (fun _=>false) (fun _=>false) (fun _=>false)
theorem lL {v:AV} {K0:Bool} {K:Nat→Bool} (h:sJ v K0 K=true):(v= .nilM∧K0=true)∨∃i,v= .map i∧K i=true:=by
 cases v<;>first|exact .inr ⟨_,rfl,h⟩|exact .inl ⟨rfl,h⟩|cases h
noncomputable def asAgg (v:AV) (K:List AV→Bool):Bool:=AV.casesOn v false (fun _ _=>false) (fun _=>false) (fun _=>false) (fun _ _=>false) (fun _ _ _ _=>false) (fun _=>false) false false false false false (fun _ _=>false) (fun _ _=>false) (fun _=>false) K (fun _=>false) (fun _=>false) (fun _=>false)
theorem eQ {v:AV} {K:List AV→Bool} (h:asAgg v K=true):∃l,v= .agg l∧K l=true:=by cases v<;>first|exact⟨_,rfl,h⟩|cases h
noncomputable def US (v:AV) (K:List AV→Bool):Bool:=AV.casesOn v false (fun _ _=>false) (fun _=>false) (fun _=>false) (fun _ _=>false) (fun _ _ _ _=>false) (fun _=>false) false false false false false (fun _ _=>false) (fun _ _=>false) (fun _=>false) (fun _=>false) K (fun _=>false) (fun _=>false)
theorem Ud {v:AV} {K:List AV→Bool} (h:US v K=true):∃l,v= .tup l∧K l=true:=by cases v<;>first|exact⟨_,rfl,h⟩|cases h
noncomputable def ce (v:AV):List AV:=AV.casesOn v [.bad] (fun k z=>[.int k z]) (fun b=>[.bool b]) (fun l=>[.str l]) (fun i o=>[.ptr i o]) (fun i o n c=>[.sl i o n c]) (fun i=>[.map i]) [.nilP] [.nilS] [.nilM] [.nilF] [.nilI] (fun t v=>[.iface t v]) (fun f c=>[.fn f c]) (fun i=>[.yl i]) (fun l=>l) (fun l=>[.tup l]) (fun i=>[.any i]) (fun s=>[.sy s])
noncomputable def HZ (v:AV):Bool:=AV.casesOn v false (fun _ _=>true) (fun _=>true) (fun _=>true) (fun _ _=>true) (fun _ _ _ _=>true) (fun _=>true) true true true true true (fun _ _=>true) (fun _ _=>true) (fun _=>true) (fun _=>false) (fun _=>false) (fun _=>true) (fun _=>true)
noncomputable def Dp (l:List AV):Bool:=List.rec true (fun v _ ih=>Bool.rec false ih (HZ v)) l
def dV (E:Env):Prop:=(∀i,Value.oneCell' (E i)=true)∧Tied E.M
section
variable {E:Env} {ρ:Ren}
theorem TM {p:PL} {x:Value} (h:gU E p=some x):Value.oneCell' x=true∧x.cells= #[x]:=by
 obtain⟨h1,rfl⟩:=gy h
 cases h1 with
 |imm ao cap hh=>subst hh;exact⟨rfl,rfl⟩
 |_=>exact⟨rfl,rfl⟩
theorem Kb {s:SY} {x:Value} (h:bb E ρ s=some x):Value.oneCell' x=true∧x.cells= #[x]:=by
 cases s with
 |imm=>exact TM h
 |int k z=>cases h;exact⟨rfl,rfl⟩
 |bool p=>cases h;exact⟨rfl,rfl⟩
 |str l=>cases h;exact⟨rfl,rfl⟩
 |pim b o cs=>
  simp only[bb]at h
  split at h
  ·cases h;exact⟨rfl,rfl⟩
  ·cases h
 |prow i n=>
  simp only[bb]at h
  split at h
  ·unfold lj at h
   split at h
   ·split at h
    ·cases h;exact⟨rfl,rfl⟩
    ·cases h
   ·cases h;exact⟨rfl,rfl⟩
  ·cases h
 |psub i sz a n=>
  simp only[bb]at h
  split at h
  ·unfold Ez at h
   split at h
   ·split at h
    ·cases h;exact⟨rfl,rfl⟩
    ·cases h
   ·split at h
    ·cases h;exact⟨rfl,rfl⟩
    ·cases h
  ·cases h
 |pfix i n c=>
  simp only[bb]at h
  split at h
  ·unfold EA at h
   split at h
   ·split at h
    ·cases h;exact⟨rfl,rfl⟩
    ·cases h
   ·cases h;exact⟨rfl,rfl⟩
  ·cases h
 |rptr i sz q o=>
  simp only[bb]at h
  split at h
  ·cases h;exact⟨rfl,rfl⟩
  ·cases h
 |kmp i=>
  simp only[bb]at h
  split at h
  ·cases h;exact⟨rfl,rfl⟩
  ·cases h
theorem SK (hE:dV E) {v:AV} {x:Value} (h:HZ v=true) (hd:den E ρ v=some x):Value.oneCell' x=true:=by
 cases v<;>first|(cases h;done)|skip
 case int k z=>simp[den]at hd;subst hd;rfl
 case bool b=>simp[den]at hd;subst hd;rfl
 case str l=>simp[den]at hd;subst hd;rfl
 case nilP=>simp[den]at hd;subst hd;rfl
 case nilS=>simp[den]at hd;subst hd;rfl
 case nilM=>simp[den]at hd;subst hd;rfl
 case nilF=>simp[den]at hd;subst hd;rfl
 case nilI=>simp[den]at hd;subst hd;rfl
 case any i=>
  unfold den at hd
  split at hd<;>first|(cases hd;exact hE.1 i)|cases hd
 case sy s=>
  unfold den at hd
  exact(Kb hd).1
 all_goals
  unfold den at hd
  split at hd<;>first|(cases hd;rfl)|cases hd
theorem wj (hE:dV E):∀{l:List AV} {xs:List Value},Dp l=true→aJ E ρ l=some xs→xs.all Value.oneCell'=true
 |[],xs,_,h=>by simp[aJ]at h;subst h;rfl
 |v::r,xs,ha,h=>by
  obtain⟨x,ys,h1,h2,rfl⟩:=bh h
  have ha':Bool.rec (motive:=fun _=>Bool) false (Dp r) (HZ v)=true:=ha
  have hv:HZ v=true:=by
   cases q:HZ v with
   |true=>rfl
   |false=>rw[q]at ha';cases ha'
  rw[hv]at ha'
  simp only[List.all_cons,acT]
  exact⟨SK hE hv h1,wj hE ha' h2⟩
theorem mV (hE:dV E) {v:AV} {x:Value} (hd:den E ρ v=some x):aJ E ρ (ce v)=some x.cells.toList:=by
 cases v
 case agg l=>
  unfold den at hd
  split at hd
  ·rename_i cs h;cases hd;simpa[ce,Value.cells] using h
  ·cases hd
 case bad=>simp[den]at hd
 case int k z=>simp[den]at hd;subst hd;simp[ce,aJ,den,Value.cells]
 case bool b=>simp[den]at hd;subst hd;simp[ce,aJ,den,Value.cells]
 case str l=>simp[den]at hd;subst hd;simp[ce,aJ,den,Value.cells]
 case nilP=>simp[den]at hd;subst hd;simp[ce,aJ,den,Value.cells]
 case nilS=>simp[den]at hd;subst hd;simp[ce,aJ,den,Value.cells]
 case nilM=>simp[den]at hd;subst hd;simp[ce,aJ,den,Value.cells]
 case nilF=>simp[den]at hd;subst hd;simp[ce,aJ,den,Value.cells]
 case nilI=>simp[den]at hd;subst hd;simp[ce,aJ,den,Value.cells]
 case any i=>
  have hd':=hd
  unfold den at hd'
  split at hd'
  case h_2=>cases hd'
  cases hd'
  have:=hE.1 i
  simp only[ce,aJ,hd]
  cases h:E i<;>rw[h]at this<;>first|(simp[Value.cells];done)|(simp[Value.oneCell']at this;done)
 case sy s=>
  have hd':=hd
  unfold den at hd'
  simp only[ce,aJ,hd,(Kb hd').2]
 all_goals
  have hd':=hd
  unfold den at hd'
  split at hd'<;>first|(cases hd';simp[ce,aJ,hd,Value.cells];done)|cases hd'
end
noncomputable def zP (k:Nat):Bool:=Nat.beq k 0||Nat.blt 4 k
noncomputable def ra (k:Nat):Nat:=Nat.rec 9223372036854775808 (fun k _=>Nat.rec 256 (fun k _=>Nat.rec 65536 (fun k _=>Nat.rec 4294967296 (fun k _=>Nat.rec 18446744073709551616 (fun k _=>Nat.rec 2147483648 (fun k _=>Nat.rec 32768 (fun _ _=>128) k) k) k) k) k) k) k
noncomputable def inR (k:Nat) (z:Int):Bool:=Int.casesOn z (fun n=>Nat.blt n (ra k)) (fun n=>zP k&&Nat.blt n (ra k))
theorem Tw {k:Nat} {z:Int} (h:inR k z=true):(aH k).wrap z=z:=by
 have hz:(0≤z→z<(ra k:Int))∧(z<0→zP k=true∧ -(ra k:Int)≤z):=by
  cases z with
  |ofNat n=>
   have:n<ra k:=by
    have:Nat.blt n (ra k)=true:=h
    simpa[acZ] using this
   exact⟨fun _=>by simp only[Int.ofNat_eq_natCast];omega,fun hn=>by simp only[Int.ofNat_eq_natCast]at hn;omega⟩
  |negSucc n=>
   have h':(zP k&&Nat.blt n (ra k))=true:=h
   simp only[acT,acZ]at h'
   exact⟨fun hn=>by omega,fun _=>⟨h'.1,by have:=h'.2;omega⟩⟩
 match k with
 |0=>
  have hb:ra 0=9223372036854775808:=rfl
  have hs:zP 0=true:=rfl
  rw[hb,hs]at hz
  have h1:=hz.1;have h2:=hz.2
  exact wrap_i64 (by omega) (by omega)
 |1=>
  have hb:ra 1=256:=rfl
  have hs:zP 1=false:=rfl
  rw[hb,hs]at hz
  have h1:=hz.1;have h2:=hz.2
  have h2:¬z<0:=fun q=>by have:=(h2 q).1;cases this
  exact wrap_u8 (by omega) (by omega)
 |2=>
  have hb:ra 2=65536:=rfl
  have hs:zP 2=false:=rfl
  rw[hb,hs]at hz
  have h1:=hz.1;have h2:=hz.2
  have h2:¬z<0:=fun q=>by have:=(h2 q).1;cases this
  exact Hj (by omega) (by omega)
 |3=>
  have hb:ra 3=4294967296:=rfl
  have hs:zP 3=false:=rfl
  rw[hb,hs]at hz
  have h1:=hz.1;have h2:=hz.2
  have h2:¬z<0:=fun q=>by have:=(h2 q).1;cases this
  exact wrap_u32 (by omega) (by omega)
 |4=>
  have hb:ra 4=18446744073709551616:=rfl
  have hs:zP 4=false:=rfl
  rw[hb,hs]at hz
  have h1:=hz.1;have h2:=hz.2
  have h2:¬z<0:=fun q=>by have:=(h2 q).1;cases this
  exact Hi (by omega) (by omega)
 |5=>
  have hb:ra 5=2147483648:=rfl
  have hs:zP 5=true:=rfl
  rw[hb,hs]at hz
  have h1:=hz.1;have h2:=hz.2
  exact Hk (by omega) (by omega)
 |6=>
  have hb:ra 6=32768:=rfl
  have hs:zP 6=true:=rfl
  rw[hb,hs]at hz
  have h1:=hz.1;have h2:=hz.2
  exact IntWalk.i16_in z ⟨by omega,by omega⟩
 |k+7=>
  have hb:ra (k+7)=128:=rfl
  rw[hb]at hz
  have h1:=hz.1;have h2:=hz.2
  exact IntWalk.i8_in z ⟨by omega,by omega⟩
noncomputable def rH (k:Nat) (z:Int) (K:Int→Bool):Bool:=fI z fun z=>aY (inR k z) (K z) (fI ((aH k).wrap z) K)
theorem qd (k:Nat) (z:Int) (K:Int→Bool):rH k z K=K ((aH k).wrap z):=by
 unfold rH
 rw[zr,CR]
 cases h:inR k z with
 |true=>rw[cond_true,Tw h]
 |false=>rw[cond_false,zr]
noncomputable def qZ (a b:Int):Bool:=Int.casesOn a (fun m=>Int.casesOn b (fun n=>Nat.blt m n) (fun _=>false)) (fun m=>Int.casesOn b (fun _=>true) (fun n=>Nat.blt n m))
theorem ub (a b:Int):qZ a b=decide (a<b):=by
 rw[Bool.eq_iff_iff,decide_eq_true_eq]
 cases a<;>cases b
 ·simp only[qZ,acZ,Int.ofNat_eq_natCast];omega
 ·simp only[qZ,Int.ofNat_eq_natCast,Bool.false_eq_true,false_iff];omega
 ·simp only[qZ,Int.ofNat_eq_natCast,true_iff];omega
 ·simp only[qZ,acZ];omega
noncomputable def rf (a b:Int):Bool:=Int.casesOn a (fun m=>Int.casesOn b (fun n=>Nat.beq m n) (fun _=>false)) (fun m=>Int.casesOn b (fun _=>false) (fun n=>Nat.beq m n))
theorem Oi (m n:Nat):Nat.beq m n=decide (m=n):=by
 rw[Bool.eq_iff_iff,decide_eq_true_eq,Nat.beq_eq]
theorem re (a b:Int):rf a b=decide (a=b):=by
 rw[Bool.eq_iff_iff,decide_eq_true_eq]
 cases a<;>cases b
 ·simp only[rf,Nat.beq_eq,Int.ofNat_eq_natCast];omega
 ·simp only[rf,Int.ofNat_eq_natCast,Bool.false_eq_true,false_iff];omega
 ·simp only[rf,Int.ofNat_eq_natCast,Bool.false_eq_true,false_iff];omega
 ·simp only[rf,Nat.beq_eq];omega
noncomputable def eC {α:Type _} (l:List α):Nat→Option α:=List.rec (fun _=>none) (fun x _ ih n=>Nat.rec (some x) (fun m _=>ih m) n) l
theorem fA {α:Type _}:∀(l:List α) (n:Nat),eC l n=l[n]?
 |[],n=>by simp[eC]
 |x::l,0=>rfl
 |x::l,n+1=>by rw[List.getElem?_cons_succ,←fA l n];rfl
noncomputable def uk {α:Type _} (l:List α):Nat→List α:=List.rec (fun _=>[]) (fun x xs ih n=>Nat.rec (x::xs) (fun m _=>ih m) n) l
theorem rh {α:Type _}:∀(l:List α) (n:Nat),uk l n=l.drop n
 |[],n=>by simp[uk]
 |x::l,0=>rfl
 |x::l,n+1=>by rw[List.drop_succ_cons,←rh l n];rfl
noncomputable def wJ {α:Type _} (l:List α):Nat→(List α→Bool)→Bool:=List.rec (fun n K=>Nat.rec (K []) (fun _ _=>false) n) (fun x _ ih n K=>Nat.rec (K []) (fun m _=>ih m fun r=>K (x::r)) n) l
theorem tJ {α:Type _}:∀{l:List α} {n:Nat} {K:List α→Bool},wJ l n K=true→K (l.take n)=true∧n≤l.length
 |[],0,K,h=>⟨h,by simp⟩
 |[],n+1,K,h=>by cases h
 |x::l,0,K,h=>⟨h,by simp⟩
 |x::l,n+1,K,h=>by
  have h':wJ l n (fun r=>K (x::r))=true:=h
  obtain⟨h1,h2⟩:=tJ h'
  exact⟨by simpa using h1,by simp;omega⟩
noncomputable def upd {α:Type _} (l:List α):Nat→List α→(List α→Bool)→Bool:=
 List.rec (fun n vs K=>List.casesOn vs (Nat.rec (K []) (fun _ _=>false) n) (fun _ _=>false))
  (fun x xs ih n vs K=>Nat.rec (List.casesOn vs (K (x::xs)) (fun v vs'=>ih 0 vs' fun r=>K (v::r))) (fun m _=>ih m vs fun r=>K (x::r)) n) l
theorem dA {α:Type _}:∀{l:List α} {n:Nat} {vs:List α} {K:List α→Bool},upd l n vs K=true→K (l.take n++vs++l.drop (n+vs.length))=true∧n+vs.length≤l.length
 |[],0,[],K,h=>⟨h,by simp⟩
 |[],n+1,[],K,h=>by cases h
 |[],n,v::vs,K,h=>by cases h
 |x::l,0,[],K,h=>⟨h,by simp⟩
 |x::l,0,v::vs,K,h=>by
  have h':upd l 0 vs (fun r=>K (v::r))=true:=h
  obtain⟨h1,h2⟩:=dA h'
  exact⟨by simpa using h1,by simp at h2 ⊢;omega⟩
 |x::l,n+1,vs,K,h=>by
  have h':upd l n vs (fun r=>K (x::r))=true:=h
  obtain⟨h1,h2⟩:=dA h'
  refine⟨?_,by simp;omega⟩
  rw[show n+1+vs.length=(n+vs.length)+1 by omega]
  simpa using h1
noncomputable def app {α:Type _} (l:List α) (m:List α) (K:List α→Bool):Bool:=List.rec (motive:=fun _=>(List α→Bool)→Bool) (fun K=>K m) (fun x _ ih K=>ih fun r=>K (x::r)) l K
theorem ur {α:Type _}:∀(l m:List α) (K:List α→Bool),app l m K=K (l++m)
 |[],m,K=>rfl
 |x::l,m,K=>by
  have:app (x::l) m K=app l m (fun r=>K (x::r)):=rfl
  rw[this,ur l m];rfl
noncomputable def dG {α:Type _} (l:List α):Nat:=List.rec 0 (fun _ _ ih=>Nat.succ ih) l
theorem cj {α:Type _}:∀(l:List α),dG l=l.length
 |[]=>rfl
 |x::l=>by
  have:dG (x::l)=Nat.succ (dG l):=rfl
  rw[this,cj l];rfl
noncomputable def Gt (l m:List Nat):Bool:=List.rec (motive:=fun _=>List Nat→Bool) (fun m=>List.casesOn m true (fun _ _=>false)) (fun x _ ih m=>List.casesOn m false (fun y r=>Bool.rec false (ih r) (Nat.beq x y))) l m
theorem uj:∀(l m:List Nat),Gt l m=decide (l=m)
 |[],[]=>rfl
 |[],_::_=>rfl
 |_::_,[]=>rfl
 |x::l,y::m=>by
  have:Gt (x::l) (y::m)=Bool.rec (motive:=fun _=>Bool) false (Gt l m) (Nat.beq x y):=rfl
  rw[this,uj l m,Oi]
  by_cases h:x=y
  ·subst h;by_cases h2:l=m<;>simp[h2]
  ·simp[h]
noncomputable def eO (v:AV):Bool:=AV.casesOn v false (fun _ _=>false) (fun _=>false) (fun _=>false) (fun _ _=>false) (fun _ _ _ _=>false) (fun _=>false) false false false false false (fun _ _=>false) (fun _ _=>false) (fun _=>false) (fun _=>false) (fun _=>false) (fun _=>false) (fun _=>true)
noncomputable def lK (v:AV) (K:SY→Bool):Bool:=AV.casesOn v false (fun _ _=>false) (fun _=>false) (fun _=>false) (fun _ _=>false) (fun _ _ _ _=>false) (fun _=>false) false false false false false (fun _ _=>false) (fun _ _=>false) (fun _=>false) (fun _=>false) (fun _=>false) (fun _=>false) K
theorem fK {v:AV} {K:SY→Bool} (h:lK v K=true):∃s,v= .sy s∧K s=true:=by cases v<;>first|exact⟨_,rfl,h⟩|cases h
noncomputable def mp (v:AV) (K:Nat→Int→Bool):Bool:=AV.casesOn v false K (fun _=>false) (fun _=>false) (fun _ _=>false) (fun _ _ _ _=>false) (fun _=>false) false false false false false (fun _ _=>false) (fun _ _=>false) (fun _=>false) (fun _=>false) (fun _=>false) (fun _=>false)
 fun s=>SY.casesOn s K (fun _=>false) (fun _=>false) (fun _ _ _ _ _=>false) (fun _ _ _=>false) (fun _ _=>false) (fun _ _ _ _=>false) (fun _ _ _ _=>false) (fun _ _ _=>false) (fun _=>false)
theorem iR {E:Env} {ρ:Ren} {v:AV} {K:Nat→Int→Bool} {x:Value} (hd:den E ρ v=some x) (h:mp v K=true):∃k z,x= .int (aH k) z∧K k z=true:=by
 cases v<;>first|(cases h;done)|skip
 case int k z=>cases hd;exact⟨k,z,rfl,h⟩
 case sy s=>
  cases s<;>first|(cases h;done)|skip
  case int k z=>cases hd;exact⟨k,z,rfl,h⟩
noncomputable def OW (v:AV) (K:Bool→Bool):Bool:=AV.casesOn v false (fun _ _=>false) K (fun _=>false) (fun _ _=>false) (fun _ _ _ _=>false) (fun _=>false) false false false false false (fun _ _=>false) (fun _ _=>false) (fun _=>false) (fun _=>false) (fun _=>false) (fun _=>false)
 fun s=>SY.casesOn s (fun _ _=>false) (fun p=>aY (aC p) (K true) (K false)) (fun _=>false) (fun _ _ _ _ _=>false) (fun _ _ _=>false) (fun _ _=>false) (fun _ _ _ _=>false) (fun _ _ _ _=>false) (fun _ _ _=>false) (fun _=>false)
theorem EP {E:Env} {ρ:Ren} {v:AV} {K:Bool→Bool} {x:Value} (hd:den E ρ v=some x) (h:OW v K=true):∃b,x= .bool b∧K b=true:=by
 cases v<;>first|(cases h;done)|skip
 case bool b=>cases hd;exact⟨b,rfl,h⟩
 case sy s=>
  cases s<;>first|(cases h;done)|skip
  case bool p=>
   cases hd
   rcases aX h with⟨q,g⟩|⟨q,g⟩
   ·exact⟨true,by rw[q],g⟩
   ·exact⟨false,by rw[q],g⟩
noncomputable def yw (v:AV) (K:List UInt8→Bool):Bool:=AV.casesOn v false (fun _ _=>false) (fun _=>false) (fun l=>K (l.map acX)) (fun _ _=>false) (fun _ _ _ _=>false) (fun _=>false) false false false false false (fun _ _=>false) (fun _ _=>false) (fun _=>false) (fun _=>false) (fun _=>false) (fun _=>false)
 fun s=>SY.casesOn s (fun _ _=>false) (fun _=>false) K (fun _ _ _ _ _=>false) (fun _ _ _=>false) (fun _ _=>false) (fun _ _ _ _=>false) (fun _ _ _ _=>false) (fun _ _ _=>false) (fun _=>false)
theorem lx {E:Env} {ρ:Ren} {v:AV} {K:List UInt8→Bool} {x:Value} (hd:den E ρ v=some x) (h:yw v K=true):∃l,x=S l∧K l=true:=by
 cases v<;>first|(cases h;done)|skip
 case str l=>cases hd;exact⟨_,rfl,h⟩
 case sy s=>
  cases s<;>first|(cases h;done)|skip
  case str l=>cases hd;exact⟨l,rfl,h⟩
noncomputable def Ue (v:AV) (K:Prop→Bool):Bool:=AV.casesOn v false (fun _ _=>false) (fun b=>K (b=true)) (fun _=>false) (fun _ _=>false) (fun _ _ _ _=>false) (fun _=>false) false false false false false (fun _ _=>false) (fun _ _=>false) (fun _=>false) (fun _=>false) (fun _=>false) (fun _=>false)
 fun s=>SY.casesOn s (fun _ _=>false) K (fun _=>false) (fun _ _ _ _ _=>false) (fun _ _ _=>false) (fun _ _=>false) (fun _ _ _ _=>false) (fun _ _ _ _=>false) (fun _ _ _=>false) (fun _=>false)
theorem MQ {E:Env} {ρ:Ren} {v:AV} {K:Prop→Bool} {x:Value} (hd:den E ρ v=some x) (h:Ue v K=true):∃p,x= .bool (aC p)∧K p=true:=by
 cases v<;>first|(cases h;done)|skip
 case bool b=>cases hd;exact⟨b=true,by rw[uR],h⟩
 case sy s=>
  cases s<;>first|(cases h;done)|skip
  case bool p=>cases hd;exact⟨p,rfl,h⟩
noncomputable def am {α:Sort _} (f:α→Bool):Bool:=aC (∀x,f x=true)
noncomputable def aF {α:Sort _} (f:α→Bool):Bool:=aC (∃x,f x=true)
theorem aG {α:Sort _} {f:α→Bool} (h:am f=true):∀x,f x=true:=prB_true.1 h
theorem az {α:Sort _} {f:α→Bool} (h:∀x,f x=true):am f=true:=prB_true.2 h
theorem bL {α:Sort _} {f:α→Bool} (h:aF f=true):∃x,f x=true:=prB_true.1 h
theorem aK {α:Sort _} {f:α→Bool} (x:α) (h:f x=true):aF f=true:=prB_true.2 ⟨x,h⟩
theorem aE {b x:Bool} (h1:b=true) (h2:x=true):ac b x=true:=by subst h1;exact h2
theorem ba {p:Prop} {x:Bool} (h1:p) (h2:x=true):ac (aC p) x=true:=aE (prB_true.2 h1) h2
theorem aa {p:Prop} {x:Bool} (h:ac (aC p) x=true):p∧x=true:=⟨prB_true.1 (ai h).1,(ai h).2⟩
theorem QQ {p:Prop} {x y:Bool} (h1:p→x=true) (h2:¬p→y=true):aY (aC p) x y=true:=by
 by_cases h:p
 ·rw[show aC p=true from prB_true.2 h];exact h1 h
 ·rw[show aC p=false from prB_false.2 h];exact h2 h
theorem jF {p:Prop} {x y:Bool} (h:aY (aC p) x y=true):(p∧x=true)∨(¬p∧y=true):=by
 rcases aX h with⟨q,g⟩|⟨q,g⟩
 ·exact .inl ⟨prB_true.1 q,g⟩
 ·exact .inr ⟨prB_false.1 q,g⟩
def bp (k:Nat) (z:Int):Prop:=match k with
 |0=> -9223372036854775808≤z∧z≤9223372036854775807
 |1=>0≤z∧z≤255
 |2=>0≤z∧z≤65535
 |3=>0≤z∧z≤4294967295
 |4=>0≤z∧z≤18446744073709551615
 |5=> -2147483648≤z∧z≤2147483647
 |6=> -32768≤z∧z≤32767
 |_=> -128≤z∧z≤127
theorem Uh {k:Nat} {z:Int} (h:bp k z):(aH k).wrap z=z:=by
 match k,h with
 |0,h=>exact wrap_i64 h.1 h.2
 |1,h=>exact wrap_u8 h.1 h.2
 |2,h=>exact Hj h.1 h.2
 |3,h=>exact wrap_u32 h.1 h.2
 |4,h=>exact Hi h.1 h.2
 |5,h=>exact Hk h.1 h.2
 |6,h=>exact IntWalk.i16_in z h
 |k+7,h=>exact IntWalk.i8_in z h
noncomputable def qH (k:Nat) (z:Int) (K:AV→Bool):Bool:=ac (aC (bp k z)) (K (.sy (.int k z)))
theorem pT {E:Env} {ρ:Ren} {k:Nat} {z:Int} {K:AV→Bool} (h:qH k z K=true):(aH k).wrap z=z∧K (.sy (.int k z))=true∧den E ρ (.sy (.int k z))=some (.int (aH k) z):=
 ⟨Uh (aa h).1,(aa h).2,rfl⟩
def kA:Nat→BinOp
 |0=>.add|1=>.sub|2=>.mul|3=>.quo|_=>.rem
noncomputable def arX (o:Nat) (v1 v2:AV) (K:AV→Bool):Bool:=
 jc v1 fun k a=>jc v2 fun k2 b=>ac (Nat.beq k k2) (
  Nat.rec (rH k (Int.add a b) fun z=>K (.int k z)) (fun o _=>
  Nat.rec (rH k (Int.sub a b) fun z=>K (.int k z)) (fun o _=>
  Nat.rec (rH k (Int.mul a b) fun z=>K (.int k z)) (fun o _=>
  Nat.rec (aY (rf b 0) false (rH k (Int.tdiv a b) fun z=>K (.int k z))) (fun _ _=>
  aY (rf b 0) false (fI (Int.tmod a b) fun z=>K (.int k z))) o) o) o) o)
def BL:Nat→BinOp
 |0=>.and|1=>.or|2=>.xor|_=>.andNot
def zC (o:Nat) (k:Nat) (a b:Int):Int:=
 let x:=BitVec.ofInt (aH k).bits a
 let y:=BitVec.ofInt (aH k).bits b
 (aH k).wrap (match o with|0=>(x&&& y).toNat|1=>(x|||y).toNat|2=>(x ^^^ y).toNat|_=>(x&&& ~~~y).toNat)
noncomputable def Ua (o:Nat) (v1 v2:AV) (K:AV→Bool):Bool:=
 jc v1 fun k a=>jc v2 fun k2 b=>ac (Nat.beq k k2) (fI (zC o k a b) fun z=>K (.int k z))
noncomputable def ZM (right:Bool) (v1 v2:AV) (K:AV→Bool):Bool:=
 jc v1 fun k a=>jc v2 fun _ b=>aY (qZ b 0) false (aY right (fI (Int.fdiv a (2 ^ (min b.toNat (aH k).bits))) fun z=>K (.int k z)) (rH k (Int.mul a (2 ^ (min b.toNat (aH k).bits))) fun z=>K (.int k z)))
theorem mC {v1 v2:AV} {f:Nat→Int→Int→Bool} (h:(jc v1 fun k a=>jc v2 fun k2 b=>ac (Nat.beq k k2) (f k a b))=true):∃k a b,v1= .int k a∧v2= .int k b∧f k a b=true:=by
 obtain⟨k,a,e1,h1⟩:=iS h
 obtain⟨k2,b,e2,h2⟩:=iS h1
 obtain⟨h3,h4⟩:=ai h2
 have:=acE h3
 subst this
 exact⟨k,a,b,e1,e2,h4⟩
theorem Vi {v1 v2:AV} {f:Nat→Int→Nat→Int→Bool} (h:(jc v1 fun k a=>jc v2 fun k2 b=>f k a k2 b)=true):∃k a k2 b,v1= .int k a∧v2= .int k2 b∧f k a k2 b=true:=by
 obtain⟨k,a,e1,h1⟩:=iS h
 obtain⟨k2,b,e2,h2⟩:=iS h1
 exact⟨k,a,k2,b,e1,e2,h2⟩
theorem abD {P:Program} {E:Env} {ρ:Ren} {o:Nat} {v1 v2:AV} {K:AV→Bool} {x y:Value} (h1:den E ρ v1=some x) (h2:den E ρ v2=some y) (h:arX o v1 v2 K=true) (t:TypeId) (p q:Operand):
  ∃v z,den E ρ v=some z∧K v=true∧∀w,((do eqGuard (kA o) t p q x y;binOp (kA o) t x y):Sem Value).run P w= .ok z w:=by
 match o with
 |0=>
  obtain⟨k,a,b,rfl,rfl,g⟩:=mC (f:=fun k a b=>rH k (Int.add a b) fun z=>K (.int k z)) h
  rw[qd]at g
  cases h1;cases h2
  exact⟨_,_,rfl,g,fun w=>by simp[kA,eqGuard,binOp,Op.intArith]<;>rfl⟩
 |1=>
  obtain⟨k,a,b,rfl,rfl,g⟩:=mC (f:=fun k a b=>rH k (Int.sub a b) fun z=>K (.int k z)) h
  rw[qd]at g
  cases h1;cases h2
  exact⟨_,_,rfl,g,fun w=>by simp[kA,eqGuard,binOp,Op.intArith]<;>rfl⟩
 |2=>
  obtain⟨k,a,b,rfl,rfl,g⟩:=mC (f:=fun k a b=>rH k (Int.mul a b) fun z=>K (.int k z)) h
  rw[qd]at g
  cases h1;cases h2
  exact⟨_,_,rfl,g,fun w=>by simp[kA,eqGuard,binOp,Op.intArith]<;>rfl⟩
 |3=>
  obtain⟨k,a,b,rfl,rfl,g⟩:=mC (f:=fun k a b=>aY (rf b 0) false (rH k (Int.tdiv a b) fun z=>K (.int k z))) h
  rcases aX g with⟨_,g⟩|⟨hb,g⟩
  ·cases g
  rw[re,decide_eq_false_iff_not]at hb
  rw[qd]at g
  cases h1;cases h2
  exact⟨_,_,rfl,g,fun w=>by simp[kA,eqGuard,binOp,Op.intDiv,hb]⟩
 |o+4=>
  obtain⟨k,a,b,rfl,rfl,g⟩:=mC (f:=fun k a b=>aY (rf b 0) false (fI (Int.tmod a b) fun z=>K (.int k z))) h
  rcases aX g with⟨_,g⟩|⟨hb,g⟩
  ·cases g
  rw[re,decide_eq_false_iff_not]at hb
  rw[zr]at g
  cases h1;cases h2
  exact⟨_,_,rfl,g,fun w=>by simp[kA,eqGuard,binOp,Op.intDiv,hb]⟩
theorem WP {P:Program} {E:Env} {ρ:Ren} {o:Nat} {v1 v2:AV} {K:AV→Bool} {x y:Value} (h1:den E ρ v1=some x) (h2:den E ρ v2=some y) (h:Ua o v1 v2 K=true) (t:TypeId) (p q:Operand):
  ∃v z,den E ρ v=some z∧K v=true∧∀w,((do eqGuard (BL o) t p q x y;binOp (BL o) t x y):Sem Value).run P w= .ok z w:=by
 obtain⟨k,a,b,rfl,rfl,g⟩:=mC (f:=fun k a b=>fI (zC o k a b) fun z=>K (.int k z)) h
 rw[zr]at g
 cases h1;cases h2
 refine⟨_,_,rfl,g,fun w=> ?_⟩
 match o with
 |0=>simp[BL,eqGuard,binOp,Op.intBits,zC]
 |1=>simp[BL,eqGuard,binOp,Op.intBits,zC]
 |2=>simp[BL,eqGuard,binOp,Op.intBits,zC]
 |o+3=>simp[BL,eqGuard,binOp,Op.intBits,zC]
theorem ZL {P:Program} {E:Env} {ρ:Ren} {right:Bool} {v1 v2:AV} {K:AV→Bool} {x y:Value} (h1:den E ρ v1=some x) (h2:den E ρ v2=some y) (h:ZM right v1 v2 K=true) (t:TypeId) (p q:Operand):
  ∃v z,den E ρ v=some z∧K v=true∧∀w,((do eqGuard (bif right then .shr else .shl) t p q x y;binOp (bif right then .shr else .shl) t x y):Sem Value).run P w= .ok z w:=by
 obtain⟨k,a,k2,b,rfl,rfl,g⟩:=Vi (f:=fun k a _ b=>aY (qZ b 0) false (aY right (fI (Int.fdiv a (2 ^ (min b.toNat (aH k).bits))) fun z=>K (.int k z)) (rH k (Int.mul a (2 ^ (min b.toNat (aH k).bits))) fun z=>K (.int k z)))) h
 rcases aX g with⟨_,g⟩|⟨hb,g⟩
 ·cases g
 rw[ub,decide_eq_false_iff_not]at hb
 cases h1;cases h2
 rcases aX g with⟨rfl,g⟩|⟨rfl,g⟩
 ·rw[zr]at g
  exact⟨_,_,rfl,g,fun w=>by simp[eqGuard,binOp,Op.shift,hb]⟩
 ·rw[qd]at g
  exact⟨_,_,rfl,g,fun w=>by simp[eqGuard,binOp,Op.shift,hb]<;>rfl⟩
def kz:Nat→BinOp
 |0=>.lss|1=>.leq|2=>.gtr|3=>.geq|4=>.eql|_=>.neq
noncomputable def ym (o:Nat) (a b:Int):Bool:=
 Nat.rec (qZ a b) (fun o _=>Nat.rec (Bool.not (qZ b a)) (fun o _=>Nat.rec (qZ b a) (fun o _=>Nat.rec (Bool.not (qZ a b)) (fun o _=>Nat.rec (rf a b) (fun _ _=>Bool.not (rf a b)) o) o) o) o) o
noncomputable def abt (o:Nat) (v1 v2:AV) (K:AV→Bool):Bool:=
 jc v1 fun k a=>jc v2 fun k2 b=>ac (Nat.beq k k2) (fB (ym o a b) fun r=>K (.bool r))
theorem WH {P:Program} {E:Env} {ρ:Ren} {o:Nat} {v1 v2:AV} {K:AV→Bool} {x y:Value} (h1:den E ρ v1=some x) (h2:den E ρ v2=some y) (h:abt o v1 v2 K=true) (t:TypeId) (p q:Operand):
  ∃v z,den E ρ v=some z∧K v=true∧∀w,((do eqGuard (kz o) t p q x y;binOp (kz o) t x y):Sem Value).run P w= .ok z w:=by
 obtain⟨k,a,b,rfl,rfl,g⟩:=mC (f:=fun k a b=>fB (ym o a b) fun r=>K (.bool r)) h
 rw[sF]at g
 cases h1;cases h2
 refine⟨_,_,rfl,g,fun w=> ?_⟩
 match o with
 |0=>
  have:ym 0 a b=decide (a<b):=ub a b
  simp[kz,this,eqGuard,binOp,Op.intCmp]
 |1=>
  have:ym 1 a b=decide (a≤b):=by
   show Bool.not (qZ b a)=_
   rw[ub,Bool.eq_iff_iff]
   simp
  simp[kz,this,eqGuard,binOp,Op.intCmp]
 |2=>
  have:ym 2 a b=decide (b<a):=ub b a
  simp[kz,this,eqGuard,binOp,Op.intCmp]
 |3=>
  have:ym 3 a b=decide (b≤a):=by
   show Bool.not (qZ a b)=_
   rw[ub,Bool.eq_iff_iff]
   simp
  simp[kz,this,eqGuard,binOp,Op.intCmp]
 |4=>
  have:ym 4 a b=decide (a=b):=re a b
  simp[kz,this,eqGuard,binOp,Op.intCmp,mn]
 |o+5=>
  have:ym (o+5) a b= !decide (a=b):=congrArg Bool.not (re a b)
  simp[kz,this,eqGuard,binOp,Op.intCmp,bne,mn]
theorem Ul {l m:List Nat} (hl:l.all (Nat.blt · 256)=true) (hm:m.all (Nat.blt · 256)=true):l.map acX=m.map acX↔l=m:=by
 constructor
 ·intro h
  induction l generalizing m with
  |nil=>cases m<;>simp at h ⊢
  |cons x l ih=>
   cases m with
   |nil=>simp at h
   |cons y m=>
    simp only[acH,List.cons.injEq]at h
    simp only[List.all_cons,acT,acZ]at hl hm
    have:x=y:=by
     have:=congrArg UInt8.toNat h.1
     simp only[UInt8.toNat_ofNat']at this
     omega
    rw[this,ih hl.2 hm.2 h.2]
 ·rintro rfl;rfl
noncomputable def Us (v1 v2:AV) (K:AV→Bool):Bool:=
 mW v1 fun l=>mW v2 fun m=>ac (Nat.blt (Nat.add (dG l) (dG m)) 140737488355328) (app l m fun r=>K (.str r))
theorem Sr {P:Program} {E:Env} {ρ:Ren} {v1 v2:AV} {K:AV→Bool} {x y:Value} (h1:den E ρ v1=some x) (h2:den E ρ v2=some y) (h:Us v1 v2 K=true) (t:TypeId) (p q:Operand):
  ∃v z,den E ρ v=some z∧K v=true∧∀w,((do eqGuard .add t p q x y;binOp .add t x y):Sem Value).run P w= .ok z w:=by
 obtain⟨l,e1,g1⟩:=iF h
 obtain⟨m,e2,g2⟩:=iF g1
 obtain⟨hb,g⟩:=ai g2
 rw[ur]at g
 subst e1;subst e2
 cases h1;cases h2
 refine⟨_,_,rfl,g,fun w=> ?_⟩
 rw[cj,cj,acZ]at hb
 have hb:l.length+m.length<140737488355328:=hb
 have e:(⟨(l.map acX).toArray⟩:ByteArray)++⟨(m.map acX).toArray⟩=⟨((l++m).map acX).toArray⟩:=by
  apply ByteArray.ext
  simp
 have e1:ByteArray.size ⟨(l.map acX).toArray⟩=l.length:=by simp[ByteArray.size]
 have e2:ByteArray.size ⟨(m.map acX).toArray⟩=m.length:=by simp[ByteArray.size]
 simp[eqGuard,binOp,Op.stringOp,e1,e2,e]
 omega
noncomputable def cb (l:List Nat):Bool:=List.rec true (fun x _ ih=>Bool.rec false ih (Nat.blt x 256)) l
theorem AC:∀l,cb l=l.all (Nat.blt · 256)
 |[]=>rfl
 |x::l=>by
  have:cb (x::l)=Bool.rec (motive:=fun _=>Bool) false (cb l) (Nat.blt x 256):=rfl
  rw[this,AC l,List.all_cons]
  cases Nat.blt x 256<;>rfl
noncomputable def ZN (ne:Bool) (v1 v2:AV) (K:AV→Bool):Bool:=
 mW v1 fun l=>mW v2 fun m=>ac (cb l) (ac (cb m) (fB (Bool.rec (Gt l m) (Bool.not (Gt l m)) ne) fun r=>K (.bool r)))
theorem Vw {P:Program} {E:Env} {ρ:Ren} {ne:Bool} {v1 v2:AV} {K:AV→Bool} {x y:Value} (h1:den E ρ v1=some x) (h2:den E ρ v2=some y) (h:ZN ne v1 v2 K=true) (t:TypeId) (p q:Operand):
  ∃v z,den E ρ v=some z∧K v=true∧∀w,((do eqGuard (bif ne then .neq else .eql) t p q x y;binOp (bif ne then .neq else .eql) t x y):Sem Value).run P w= .ok z w:=by
 obtain⟨l,e1,g1⟩:=iF h
 obtain⟨m,e2,g2⟩:=iF g1
 obtain⟨hl,g3⟩:=ai g2
 obtain⟨hm,g⟩:=ai g3
 rw[AC]at hl hm
 rw[sF]at g
 subst e1;subst e2
 cases h1;cases h2
 refine⟨_,_,rfl,g,fun w=> ?_⟩
 have hi:=Ul hl hm
 cases ne
 ·simp only[cond_false,eqGuard,binOp,Op.stringOp,lR,uj,acN,Sem.run_pure,acM]
  by_cases h:l=m
  ·subst h;simp
  ·simp[h,hi]
 ·simp only[cond_true,eqGuard,binOp,Op.stringOp,lR,uj,acN,Sem.run_pure,acM]
  by_cases h:l=m
  ·subst h;simp
  ·simp[h,hi]
noncomputable def aaB (v:AV) (K:AV→Bool):Bool:=MR v fun b=>fB (Bool.not b) fun r=>K (.bool r)
theorem VK {P:Program} {E:Env} {ρ:Ren} {v:AV} {K:AV→Bool} {x:Value} (h1:den E ρ v=some x) (h:aaB v K=true):∃u z,den E ρ u=some z∧K u=true∧∀w,(Op.unary .not x).run P w= .ok z w:=by
 replace h:=Do h
 obtain⟨b,rfl,g⟩:=h
 try dsimp only at g
 rw[sF]at g
 simp only[den,acU]at h1
 subst h1
 exact⟨_,_,rfl,g,fun w=>by simp[Op.unary]⟩
noncomputable def aaD (v:AV) (K:AV→Bool):Bool:=jc v fun k z=>rH k (Int.neg z) fun r=>K (.int k r)
theorem VM {P:Program} {E:Env} {ρ:Ren} {v:AV} {K:AV→Bool} {x:Value} (h1:den E ρ v=some x) (h:aaD v K=true):∃u z,den E ρ u=some z∧K u=true∧∀w,(Op.unary .neg x).run P w= .ok z w:=by
 replace h:=iS h
 obtain⟨k,z,rfl,h⟩:=h
 try dsimp only at h
 rw[qd]at h
 simp only[den,acU]at h1
 subst h1
 exact⟨_,_,rfl,h,fun w=>by simp[Op.unary,Op.intArith];rfl⟩
def abn (k:Nat) (z:Int):Int:=(aH k).wrap ((BitVec.ofInt (aH k).bits (if (aH k).signed then -1 else (aH k).max)) ^^^ (BitVec.ofInt (aH k).bits z)).toNat
noncomputable def abo (v:AV) (K:AV→Bool):Bool:=jc v fun k z=>fI (abn k z) fun r=>K (.int k r)
theorem WC {P:Program} {E:Env} {ρ:Ren} {v:AV} {K:AV→Bool} {x:Value} (h1:den E ρ v=some x) (h:abo v K=true):∃u z,den E ρ u=some z∧K u=true∧∀w,(Op.unary .xor x).run P w= .ok z w:=by
 replace h:=iS h
 obtain⟨k,z,rfl,h⟩:=h
 try dsimp only at h
 rw[zr]at h
 simp only[den,acU]at h1
 subst h1
 exact⟨_,_,rfl,h,fun w=>by simp[Op.unary,Op.intBits,abn]⟩
noncomputable def abr (k:Nat) (v:AV) (K:AV→Bool):Bool:=jc v fun _ z=>rH k z fun r=>K (.int k r)
theorem WF {P:Program} {E:Env} {ρ:Ren} {k:Nat} {v:AV} {K:AV→Bool} {x:Value} (h1:den E ρ v=some x) (h:abr k v K=true) {src dst:TypeId} (hs:(P.underlying src).isSome=true) (hd:P.underlying dst=some (.int (aH k))):
  ∃u z,den E ρ u=some z∧K u=true∧∀w,(convert src dst x).run P w= .ok z w:=by
 replace h:=iS h
 obtain⟨k0,z,rfl,h⟩:=h
 try dsimp only at h
 rw[qd]at h
 simp only[den,acU]at h1
 subst h1
 obtain⟨d,hs⟩:=Option.isSome_iff_exists.1 hs
 exact⟨_,_,rfl,h,fun w=>by simp[convert,run_underlying hs,run_underlying hd,Conv.intToInt]⟩
noncomputable def ace (v:AV) (K:Bool→Bool):Bool:=AV.casesOn v false (fun _ _=>false) (fun _=>false) (fun _=>false) (fun _ _=>K false) (fun _ _ _ _=>K false) (fun _=>K false) (K true) (K true) (K true) (K true) (K true) (fun _ _=>K false) (fun _ _=>K false) (fun _=>K false) (fun _=>false) (fun _=>false) (fun _=>false) (fun _=>false)
noncomputable def UE (v:AV):Nat:=AV.casesOn v 0 (fun _ _=>0) (fun _=>0) (fun _=>0) (fun _ _=>1) (fun _ _ _ _=>2) (fun _=>3) 1 2 3 4 5 (fun _ _=>5) (fun _ _=>4) (fun _=>4) (fun _=>0) (fun _=>0) (fun _=>0) (fun _=>0)
def Ie (P:Program) (t:TypeId) (kd:Nat):Option Value:=match P.underlying t,kd with
 |some (.pointer _),1=>some (.pointer none)|some (.slice _),2=>some (.slice none 0 0)|some (.map _ _),3=>some (.map none)|some (.func _ _ _),4=>some .nilFunc|some (.interface _),5=>some .nilIface|_,_=>none
noncomputable def aa5 (ne:Bool) (kd:Nat) (v:AV) (K:AV→Bool):Bool:=ac (Nat.beq (UE v) kd) (ace v fun b=>fB (Bool.rec b (Bool.not b) ne) fun r=>K (.bool r))
section
variable {P:Program} {t:TypeId} {w:World} {d:Nat}
theorem zt {e:TypeId} (hu:P.underlying t=some (.pointer e)) (p:Option Addr):(Op.equalIn (d+1) t (.pointer p) (.pointer none)).run P w= .ok p.isNone w:=by
 cases p<;>(simp only[Op.equalIn,acN,run_underlying hu,acM];rfl)
theorem yf {e:TypeId} (hu:P.underlying t=some (.slice e)) (p:Option Addr) (n c:Nat):(Op.equalIn (d+1) t (.slice p n c) (.slice none 0 0)).run P w= .ok p.isNone w:=by
 cases p<;>(simp only[Op.equalIn,acN,run_underlying hu,acM];rfl)
theorem zw {e f:TypeId} (hu:P.underlying t=some (.map e f)) (p:Option Nat):(Op.equalIn (d+1) t (.map p) (.map none)).run P w= .ok p.isNone w:=by
 cases p<;>(simp only[Op.equalIn,acN,run_underlying hu,acM];rfl)
theorem ME {a b c} (hu:P.underlying t=some (.func a b c)):(Op.equalIn (d+1) t .nilFunc .nilFunc).run P w= .ok true w:=by
 simp only[Op.equalIn,acN,run_underlying hu,acM];rfl
theorem Rj {a b c} (hu:P.underlying t=some (.func a b c)) (f:Fn) (x y:Array Value):(Op.equalIn (d+1) t (.func f x y) .nilFunc).run P w= .ok false w:=by
 simp only[Op.equalIn,acN,run_underlying hu,acM];rfl
theorem Ri {m} (hu:P.underlying t=some (.interface m)):(Op.equalIn (d+1) t .nilIface .nilIface).run P w= .ok true w:=by
 simp only[Op.equalIn,acN,run_underlying hu,acM];rfl
theorem UM {m} (hu:P.underlying t=some (.interface m)) (u:TypeId) (x:Value):(Op.equalIn (d+1) t (.iface u x) .nilIface).run P w= .ok false w:=by
 simp only[Op.equalIn,acN,run_underlying hu,acM];rfl
end
theorem Ws {P:Program} {E:Env} {ρ:Ren} {ne:Bool} {kd:Nat} {v:AV} {K:AV→Bool} {x:Value} {t:TypeId} {y:Value} (hn:Ie P t kd=some y) (h1:den E ρ v=some x) (h:aa5 ne kd v K=true) (p:Operand) (c:Value):
  ∃u z,den E ρ u=some z∧K u=true∧∀w,((do eqGuard (bif ne then .neq else .eql) t p (.const c) x y;binOp (bif ne then .neq else .eql) t x y):Sem Value).run P w= .ok z w:=by
 obtain⟨hk,h2⟩:=ai h
 have hk:=acE hk
 have key:∀(b:Bool),fB (Bool.rec b (Bool.not b) ne) (fun r=>K (.bool r))=true→(∀w,((do eqGuard (bif ne then .neq else .eql) t p (.const c) x y;binOp (bif ne then .neq else .eql) t x y):Sem Value).run P w= .ok (.bool (bif ne then !b else b)) w)→
   ∃u z,den E ρ u=some z∧K u=true∧∀w,((do eqGuard (bif ne then .neq else .eql) t p (.const c) x y;binOp (bif ne then .neq else .eql) t x y):Sem Value).run P w= .ok z w:=by
  intro b hb hr
  rw[sF]at hb
  refine⟨_,_,rfl,hb,fun w=> ?_⟩
  rw[hr]
  cases ne<;>rfl
 unfold Ie at hn
 split at hn<;>first|(cases hn;done)|skip
 all_goals
  have hu:= ‹P.underlying t=some _›
  cases hn
  cases v<;>first|(simp[UE]at hk;done)|skip
 all_goals
  have ho:∀x y:Value,Op.equal t x y=Op.equalIn (9999+1) t x y:=fun _ _=>rfl
  unfold den at h1
  try split at h1
  all_goals first|(cases h1;done)|skip
  all_goals
   cases h1
   first
    |(refine key true h2 (fun w=> ?_);cases ne<;>simp[eqGuard,binOp,ho,zt hu,yf hu,zw hu,ME hu,Ri hu];done)
    |(refine key false h2 (fun w=> ?_);cases ne<;>simp[eqGuard,binOp,ho,zt hu,yf hu,zw hu,Rj hu,UM hu];done)
    |(refine key true h2 (fun w=> ?_);cases ne<;>simp[eqGuard,binOp,ho,zt hu];done)
    |(refine key false h2 (fun w=> ?_);cases ne<;>simp[eqGuard,binOp,ho,zt hu];done)
    |(refine key true h2 (fun w=> ?_);cases ne<;>simp[eqGuard,binOp,ho,yf hu];done)
    |(refine key false h2 (fun w=> ?_);cases ne<;>simp[eqGuard,binOp,ho,yf hu];done)
    |(refine key true h2 (fun w=> ?_);cases ne<;>simp[eqGuard,binOp,ho,zw hu];done)
    |(refine key false h2 (fun w=> ?_);cases ne<;>simp[eqGuard,binOp,ho,zw hu];done)
    |(refine key true h2 (fun w=> ?_);cases ne<;>simp[eqGuard,binOp,ho,ME hu];done)
    |(refine key false h2 (fun w=> ?_);cases ne<;>simp[eqGuard,binOp,ho,Rj hu];done)
    |(refine key true h2 (fun w=> ?_);cases ne<;>simp[eqGuard,binOp,ho,Ri hu];done)
    |(refine key false h2 (fun w=> ?_);cases ne<;>simp[eqGuard,binOp,ho,UM hu];done)
noncomputable def dj {α:Type _} (o:Option α) (K:α→Bool):Bool:=Option.casesOn o false K
theorem bq {α:Type _} {o:Option α} {K:α→Bool} (h:dj o K=true):∃x,o=some x∧K x=true:=by
 cases o with
 |none=>cases h
 |some x=>exact⟨x,rfl,h⟩
noncomputable def fi (M:T) (i:Nat) (K:Bool→Nat→Nat→List (List AV)→Bool):Bool:=dj (M.get i) fun ob=>AObj.casesOn ob K (fun _ _=>false) (fun _ _ _ _=>false) false (fun _ _ _ _ _=>false) (fun _ _ _ _ _ _ _=>false)
theorem cM {M:T} {i:Nat} {K:Bool→Nat→Nat→List (List AV)→Bool} (h:fi M i K=true):∃g Ty sz els,M.get i=some (.blk g Ty sz els)∧K g Ty sz els=true:=by
 obtain⟨ob,h1,h2⟩:=bq h
 cases ob<;>first|exact⟨_,_,_,_,h1,h2⟩|cases h2
noncomputable def ou (M:T) (i:Nat) (K:List (AV×AV×Nat)→Nat→Bool):Bool:=dj (M.get i) fun ob=>AObj.casesOn ob (fun _ _ _ _=>false) K (fun _ _ _ _=>false) false (fun _ _ _ _ _=>false) (fun _ _ _ _ _ _ _=>false)
theorem ju {M:T} {i:Nat} {K:List (AV×AV×Nat)→Nat→Bool} (h:ou M i K=true):∃es cl,M.get i=some (.map es cl)∧K es cl=true:=by
 obtain⟨ob,h1,h2⟩:=bq h
 cases ob<;>first|exact⟨_,_,h1,h2⟩|cases h2
noncomputable def IW (M:T) (i:Nat) (K:Option Nat→Nat→List Nat→Nat→Bool):Bool:=dj (M.get i) fun ob=>AObj.casesOn ob (fun _ _ _ _=>false) (fun _ _=>false) K false (fun _ _ _ _ _=>false) (fun _ _ _ _ _ _ _=>false)
theorem FT {M:T} {i:Nat} {K:Option Nat→Nat→List Nat→Nat→Bool} (h:IW M i K=true):∃m s se st,M.get i=some (.iter m s se st)∧K m s se st=true:=by
 obtain⟨ob,h1,h2⟩:=bq h
 cases ob<;>first|exact⟨_,_,_,_,h1,h2⟩|cases h2
theorem pD {α:Type _} {sz:Nat}:∀{els:List (List α)} {q:Nat} {el:List α},(∀l∈els,l.length=sz)→els[q]?=some el→∃rest,els.flatten.drop (q*sz)=el++rest∧(q+1)*sz≤els.flatten.length
 |[],q,el,_,h=>by simp at h
 |x::els,0,el,ha,h=>by
  simp at h;subst h
  refine⟨els.flatten,by simp,?_⟩
  have:=ha x (by simp)
  simp[this]
 |x::els,q+1,el,ha,h=>by
  obtain⟨rest,h1,h2⟩:=pD (fun l hl=>ha l (by simp[hl])) (show els[q]?=some el by simpa using h)
  have hx:=ha x (by simp)
  refine⟨rest,?_,?_⟩
  ·rw[acG,Nat.add_mul,Nat.one_mul,Nat.add_comm,←hx,←List.drop_drop,List.drop_left,hx]
   exact h1
  ·rw[acG,acA,hx,Nat.add_mul (q+1)]
   omega
theorem eP {α:Type _} {sz:Nat}:∀{els:List (List α)},(∀l∈els,l.length=sz)→els.flatten.length=els.length*sz
 |[],_=>by simp
 |x::els,ha=>by
  rw[acG,acA,ha x (by simp),eP (fun l hl=>ha l (by simp[hl])),acB,Nat.add_mul]
  omega
theorem xX {α:Type _} {sz:Nat} {els:List (List α)} {q r:Nat} {el:List α} {v:α} (ha:∀l∈els,l.length=sz) (hq:els[q]?=some el) (hv:el[r]?=some v):els.flatten[q*sz+r]?=some v:=by
 obtain⟨rest,h1,_⟩:=pD ha hq
 rw[←List.getElem?_drop,h1,List.getElem?_append_left (List.getElem?_eq_some_iff.1 hv).1]
 exact hv
theorem Vg {α:Type _} {A el B vs:List α} {n r:Nat} (hA:A.length=n) (hr:r+vs.length≤el.length):
  A++(el.take r++vs++el.drop (r+vs.length))++B=(A++(el++B)).take (n+r)++vs++(A++(el++B)).drop (n+r+vs.length):=by
 subst hA
 have h1:(A++(el++B)).take (A.length+r)=A++el.take r:=by
  rw[List.take_append,List.take_of_length_le (by omega),Nat.add_sub_cancel_left,List.take_append_of_le_length (by omega)]
 have h2:(A++(el++B)).drop (A.length+r+vs.length)=el.drop (r+vs.length)++B:=by
  rw[List.drop_append,List.drop_of_length_le (by omega),acK,show A.length+r+vs.length - A.length=r+vs.length by omega,List.drop_append_of_le_length hr]
 rw[h1,h2]
 simp only[acJ]
theorem zO {α:Type _} {arr xs ys:List α} {o L:Nat} (hx:arr.take L=xs) (ho:o+ys.length≤L) (hL:L≤arr.length):(arr.take o++ys++arr.drop (o+ys.length)).take L=xs.take o++ys++xs.drop (o+ys.length):=by
 subst hx
 rw[List.take_take,Nat.min_eq_left (by omega),List.drop_take,List.take_append,List.take_of_length_le (by simp only[acA,acQ];omega)]
 congr 1
 congr 1
 simp only[acA,acQ]
 omega
theorem JK {α:Type _} {sz:Nat} {els:List (List α)} {q r:Nat} {el vs:List α} (ha:∀l∈els,l.length=sz) (hq:els[q]?=some el) (hr:r+vs.length≤el.length):
  (els.take q++[el.take r++vs++el.drop (r+vs.length)]++els.drop (q+1)).flatten=els.flatten.take (q*sz+r)++vs++els.flatten.drop (q*sz+r+vs.length):=by
 have hlt:=(List.getElem?_eq_some_iff.1 hq).1
 have he:els.drop q=el::els.drop (q+1):=by
  rw[List.drop_eq_getElem_cons hlt]
  congr 1
  exact(List.getElem?_eq_some_iff.1 hq).2
 have hl:(els.take q).flatten.length=q*sz:=by
  rw[eP (sz:=sz) (fun l hl=>ha l (List.mem_of_mem_take hl)),acQ,Nat.min_eq_left (Nat.le_of_lt hlt)]
 have hflat:els.flatten=(els.take q).flatten++(el++(els.drop (q+1)).flatten):=by
  rw[←acG,←he,←List.flatten_append,List.take_append_drop]
 rw[hflat,←Vg hl hr]
 simp
section
variable {P:Program} {E:Env} {ρ:Ren} {G:GS} {F:List aA} {M:T} {nx:Nat} {w:World}
theorem Sim.cellsAt (h:Sim E ρ G F M nx w) {i:Nat} {g:Bool} {Ty sz:Nat} {els:List (List AV)} (hi:M.get i=some (.blk g Ty sz els)):
  ∃e arr xs,ρ i=some e∧w.heap[e.b]?=some (.cells arr Ty (0,0))∧aJ E ρ els.flatten=some xs∧(∀l∈els,l.length=sz)∧0<sz∧xs.length≤arr.size∧arr.toList.take xs.length=xs∧
   (g=false→arr.toList=xs)∧(g=true→arr.size=e.cap*sz∧els.length≤e.cap∧e.cap≤maxLen):=by
 obtain⟨e,ob,h1,h2,h3⟩:=h.obj hi
 obtain⟨ha,hs,arr,xs,rfl,hd,hg⟩:=h3
 have hx:=cm hd
 rw[eP ha]at hx
 cases g with
 |false=>
  simp only[cond_false]at hg
  refine⟨e,arr,xs,h1,h2,hd,ha,hs,by rw[←hg];simp,by rw[←hg];exact List.take_of_length_le (acR _),fun _=>hg,fun q=>by cases q⟩
 |true=>
  simp only[cond_true]at hg
  obtain⟨g1,g2,g3,g4⟩:=hg
  refine⟨e,arr,xs,h1,h2,hd,ha,hs,?_,by rw[hx];exact g2,(fun q=>by cases q),fun _=>⟨g1,g3,g4⟩⟩
  rw[hx,g1]
  exact Nat.mul_le_mul_right _ g3
theorem Sim.cell (h:Sim E ρ G F M nx w) {i:Nat} {g:Bool} {Ty sz q r:Nat} {els:List (List AV)} {el:List AV} {v:AV} (hi:M.get i=some (.blk g Ty sz els)) (hq:els[q]?=some el) (hv:el[r]?=some v):
  ∃e x,ρ i=some e∧den E ρ v=some x∧w.cell? ⟨e.b,q*sz+r,none⟩=some x:=by
 obtain⟨e,arr,xs,h1,h2,h3,h4,_,h6,h7,_⟩:=h.cellsAt hi
 obtain⟨x,hx,hxs⟩:=mj h3 (xX h4 hq hv)
 refine⟨e,x,h1,hx,?_⟩
 have hlt:=(List.getElem?_eq_some_iff.1 hxs).1
 rw[←h7,acS hlt]at hxs
 simp only[World.cell?,h2]
 simpa using hxs
theorem Sim.cells (h:Sim E ρ G F M nx w) {i:Nat} {g:Bool} {Ty sz q r n:Nat} {els:List (List AV)} {el:List AV} (hi:M.get i=some (.blk g Ty sz els)) (hq:els[q]?=some el) (hn:n≤(el.drop r).length):
  ∃e xs,ρ i=some e∧aJ E ρ ((el.drop r).take n)=some xs∧xs.length=n∧∀j v,xs[j]?=some v→w.cell? ⟨e.b,q*sz+r+j,none⟩=some v:=by
 obtain⟨e,arr,ys,h1,h2,h3,h4,_,h6,h7,_⟩:=h.cellsAt hi
 obtain⟨rest,h8,_⟩:=pD h4 hq
 have hd:=mh (q*sz) h3
 rw[h8]at hd
 obtain⟨as,bs,ha,hb,hab⟩:=ee hd
 have hd2:=mg n (mh r ha)
 refine⟨e,_,h1,hd2,?_,fun j v hv=> ?_⟩
 ·have:=cm hd2
  rw[this,acQ];omega
 ·obtain⟨u,hu,hu2⟩:∃u,((el.drop r).take n)[j]?=some u∧den E ρ u=some v:=by
   have hl:=cm hd2
   have hj:=(List.getElem?_eq_some_iff.1 hv).1
   obtain⟨u,hu⟩:∃u,((el.drop r).take n)[j]?=some u:=⟨_,List.getElem?_eq_getElem (by omega)⟩
   obtain⟨x,hx,hx2⟩:=mj hd2 hu
   rw[hx2]at hv;cases hv
   exact⟨u,hu,hx⟩
  have hjn:j<n:=by
   have:=(List.getElem?_eq_some_iff.1 hu).1
   rw[acQ]at this;omega
  rw[acS hjn,List.getElem?_drop]at hu
  obtain⟨e',x,e1,e2,e3⟩:=h.cell hi hq hu
  rw[h1]at e1;cases e1
  rw[hu2]at e2;cases e2
  rw[Nat.add_assoc]
  exact e3
noncomputable def aaY (v:AV) (M:T) (K:AV→Bool):Bool:=mX v fun i o=>fi M i fun _ _ sz els=>dj (eC els (Nat.div o sz)) fun el=>dj (eC el (Nat.mod o sz)) K
theorem Wj (h:Sim E ρ G F M nx w) {v:AV} {K:AV→Bool} {x:Value} (hv:den E ρ v=some x) (hk:aaY v M K=true) {t:TypeId} (hag:isAg P t=some false):∃u z,den E ρ u=some z∧K u=true∧(Instr.loadAt t x).run P w= .ok z w:=by
 obtain⟨i,o,rfl,k1⟩:=iG hk
 obtain⟨g,Ty,sz,els,hi,k2⟩:=cM k1
 obtain⟨el,hq,k3⟩:=bq k2
 obtain⟨u,hr,k4⟩:=bq k3
 rw[fA]at hq hr
 obtain⟨e,z,h1,h2,h3⟩:=h.cell hi hq hr
 have ho:Nat.div o sz*sz+Nat.mod o sz=o:=by
  have:=Nat.div_add_mod o sz
  rw[Nat.mul_comm];exact this
 rw[ho]at h3
 simp only[den,h1]at hv
 cases hv
 exact⟨u,z,h2,k4,by simp[Instr.loadAt,Instr.sureAddr,loadVar,run_isAgg hag,load,Sem.run,h3]⟩
noncomputable def aaW (n:Nat) (v:AV) (M:T) (K:AV→Bool):Bool:=mX v fun i o=>fi M i fun _ _ sz els=>dj (eC els (Nat.div o sz)) fun el=>wJ (uk el (Nat.mod o sz)) n fun cs=>K (.agg cs)
theorem Wi (h:Sim E ρ G F M nx w) {n:Nat} {v:AV} {K:AV→Bool} {x:Value} (hv:den E ρ v=some x) (hk:aaW n v M K=true) {t:TypeId} (hag:isAg P t=some true) (hs:szOf P t=some n):∃u z,den E ρ u=some z∧K u=true∧(Instr.loadAt t x).run P w= .ok z w:=by
 obtain⟨i,o,rfl,k1⟩:=iG hk
 obtain⟨g,Ty,sz,els,hi,k2⟩:=cM k1
 obtain⟨el,hq,k3⟩:=bq k2
 rw[fA]at hq
 obtain⟨k4,hle⟩:=tJ k3
 rw[rh]at k4 hle
 obtain⟨e,xs,h1,h2,h3,h4⟩:=h.cells hi hq hle
 have ho:Nat.div o sz*sz+Nat.mod o sz=o:=by
  have:=Nat.div_add_mod o sz
  rw[Nat.mul_comm];exact this
 rw[ho]at h4
 simp only[den,h1]at hv
 cases hv
 subst h3
 have:=Go.Eng.run_loadCells (P:=P) (w:=w) e.b o xs 0 #[] (fun j v hv=>by simpa using h4 j v hv)
 exact⟨_,.agg xs.toArray,by simp only[den,h2],k4,by simp[Instr.loadAt,Instr.sureAddr,loadVar,Go.Eng.run_isAgg hag,Go.Eng.run_sizeOf hs,loadCells,this]⟩
theorem uM {b:Nat} {Ty:TypeId} (o:Nat):∀(vs:List Value) (i:Nat) (w:World) (c:Array Value),w.heap[b]?=some (.cells c Ty (0,0))→o+i+vs.length≤c.size→vs.all Value.oneCell'=true→
  ∃w',(storeCells ⟨b,o,none⟩ vs i).run P w= .ok () w'∧w'.heap[b]?=some (.cells (ec c (o+i) vs) Ty (0,0))∧w'.os=w.os∧w'.tape=w.tape∧w'.output=w.output∧w'.heap.size=w.heap.size∧∀k,k≠b→w'.heap[k]?=w.heap[k]?
 |[],i,w,c,h,_,_=>⟨w,rfl,h,rfl,rfl,rfl,rfl,fun _ _=>rfl⟩
 |v::vs,i,w,c,hown,hb,h1=>by
  simp only[acB]at hb
  simp only[List.all_cons,acT]at h1
  have hcell:w.cell? ⟨b,o+i,none⟩=some (c[o+i]'(by omega)):=by
   simp only[World.cell?,hown]
   exact Array.getElem?_eq_getElem (by omega)
  have hfr:w.frozen? ⟨b,o+i,none⟩=false:=by simp[World.frozen?,hown]
  have hrun:∀k:Sem Unit,(Sem.store .plain ⟨b,o+i,none⟩ v k).run P w=k.run P (w.setCell ⟨b,o+i,none⟩ v):=by
   intro k
   have:=h1.1
   cases v<;>simp[Value.oneCell']at this<;>simp[Sem.run,hcell,hfr]
  have hself:(w.setCell ⟨b,o+i,none⟩ v).heap[b]?=some (.cells (c.setIfInBounds (o+i) v) Ty (0,0)):=by
   simp[World.setCell,Array.getElem?_modify,hown]
  obtain⟨w',hr,h2,h3,h4,h5,h6,h7⟩:=uM o vs (i+1) (w.setCell ⟨b,o+i,none⟩ v) (c.setIfInBounds (o+i) v) hself (by simp;omega) h1.2
  refine⟨w',?_,h2,h3,h4,h5,by rw[h6];simp[World.setCell],fun k hk=> ?_⟩
  ·simp only[storeCells,acN,da,store,hrun]
   simp only[Sem.run,acM,hr]
  ·rw[h7 k hk]
   exact Below.heap_setCell _ _ _ _ hk
noncomputable def bM:Nat:=24
noncomputable def Up (n:Nat) (v x:AV) (M:T) (K:T→Bool):Bool:=
 mX v fun i o=>fi M i fun g Ty sz els=>dj (eC els (Nat.div o sz)) fun el=>ac (Nat.beq (dG (ce x)) n) (ac (Dp (ce x))
  (upd el (Nat.mod o sz) (ce x) fun el'=>upd els (Nat.div o sz) [el'] fun els'=>T.set bM M i (some (.blk g Ty sz els')) K))
theorem LK (hE:dV E) (h:Sim E ρ G F M nx w) {n:Nat} {v x:AV} {K:T→Bool} {p y:Value} (hv:den E ρ v=some p) (hx:den E ρ x=some y) (hk:Up n v x M K=true) {t:TypeId} (hs:szOf P t=some n):
  ∃M' w',Sim E ρ G F M' nx w'∧K M'=true∧(Instr.storeAt t p y).run P w= .ok () w'∧∀a,p= .pointer (some a)→(storeCells a y.cells.toList).run P w= .ok () w':=by
 obtain⟨i,o,rfl,k1⟩:=iG hk
 obtain⟨g,Ty,sz,els,hi,k2⟩:=cM k1
 obtain⟨el,hq,k3⟩:=bq k2
 rw[fA]at hq
 obtain⟨hn,k4⟩:=ai k3
 obtain⟨h1,k5⟩:=ai k4
 obtain⟨k6,hle⟩:=dA k5
 obtain⟨k7,hle2⟩:=dA k6
 obtain⟨M',hK,hg1,hg2⟩:=T.set_ok _ _ _ _ _ k7
 obtain⟨e,arr,xs,e1,e2,e3,e4,e5,e6,e7,e8,e9⟩:=h.cellsAt hi
 have hcx:=mV hE hx
 have hcl:=cm hcx
 have hn':(ce x).length=n:=by rw[←cj];exact acE hn
 have ho:Nat.div o sz*sz+Nat.mod o sz=o:=by
  have:=Nat.div_add_mod o sz
  rw[Nat.mul_comm];exact this
 obtain⟨rest,r1,r2⟩:=pD e4 hq
 have hell:=e4 el (acF hq)
 have hxl:=cm e3
 have hsz:o+(ce x).length≤xs.length:=by
  rw[hxl]
  have:(Nat.div o sz+1)*sz=Nat.div o sz*sz+sz:=by rw[Nat.add_mul,Nat.one_mul]
  omega
 obtain⟨w',hr,w1,w2,w3,w4,w5,w6⟩:=uM (P:=P) o y.cells.toList 0 w arr e2 (by rw[hcl];omega) (wj hE h1 hcx)
 rw[Nat.add_zero]at w1
 simp only[den,e1]at hv
 cases hv
 refine⟨M',w',h.turn hi e1 w2 w3 w4 (fun b _ hb=>w6 b hb) w1 ?_ hg1 hg2,hK,?_,fun a ha=>by cases ha;exact hr⟩
 ·have hsp:=oy y.cells.toList arr o (by rw[hcl];omega)
  have hlen':∀l∈els.take (Nat.div o sz)++[el.take (Nat.mod o sz)++ce x++el.drop (Nat.mod o sz+(ce x).length)]++els.drop (Nat.div o sz+1),l.length=sz:=by
   intro l hl
   simp only[acP,List.mem_singleton]at hl
   rcases hl with(hl|rfl)|hl
   ·exact e4 l (List.mem_of_mem_take hl)
   ·simp only[acA,acQ,List.length_drop];omega
   ·exact e4 l (List.mem_of_mem_drop hl)
  have hfl:=JK e4 hq hle
  rw[ho]at hfl
  have hden:aJ E ρ (els.flatten.take o++ce x++els.flatten.drop (o+(ce x).length))=some (xs.take o++y.cells.toList++xs.drop (o+(ce x).length)):=
   dW (dW (mg _ e3) hcx) (mh _ e3)
  refine⟨hlen',e5,ec arr o y.cells.toList,xs.take o++y.cells.toList++xs.drop (o+(ce x).length),rfl,?_,?_⟩
  ·rw[←hden]
   exact congrArg (aJ E ρ) hfl
  ·have hcount:(els.take (Nat.div o sz)++[el.take (Nat.mod o sz)++ce x++el.drop (Nat.mod o sz+(ce x).length)]++els.drop (Nat.div o sz+1)).length=els.length:=by
    simp only[acA,acQ,List.length_drop,List.length_singleton,acB,List.length_nil]at hle2 ⊢
    omega
   cases g with
   |false=>
    simp only[cond_false]
    rw[hsp,e8 rfl,hcl]
   |true=>
    obtain⟨q1,q2,q3⟩:=e9 rfl
    simp only[cond_true]
    refine⟨by rw[oa];exact q1,?_,(show _≤_ from by rw[←hcount]at q2;exact q2),q3⟩
    refine Eq.trans (congrArg (fun n=>(ec arr o y.cells.toList).toList.take (n*sz)) hcount) ?_
    show(ec arr o y.cells.toList).toList.take (els.length*sz)=_
    rw[←eP e4,←hxl,hsp,hcl]
    rw[←hcl]
    exact zO e7 (by rw[hcl];exact hsz) (by rw[Array.length_toList];exact e6)
 ·have hsz2:y.cells.size=n:=by rw[←Array.length_toList,hcl,hn']
  simp[Instr.storeAt,Instr.sureAddr,storeVar,Go.Eng.run_sizeOf hs,hsz2,hr]
theorem ZC (hE:dV E) (h:Sim E ρ G F M nx w) {n:Nat} {v x:AV} {K:T→Bool} {p y:Value} (hv:den E ρ v=some p) (hx:den E ρ x=some y) (hk:Up n v x M K=true) {t:TypeId} (hs:szOf P t=some n):
  ∃M' w',Sim E ρ G F M' nx w'∧K M'=true∧(Instr.storeAt t p y).run P w= .ok () w':=
 let ⟨M',w',h1,h2,h3,_⟩:=LK hE h hv hx hk hs
 ⟨M',w',h1,h2,h3⟩
end
section
variable {P:Program} {E:Env} {ρ:Ren} {G:GS} {F:List aA} {M:T} {nx:Nat} {w:World}
noncomputable def NN (g:Bool) (Ty sz:Nat) (els:List (List AV)) (M:T) (nx:Nat) (K:T→Nat→Bool):Bool:=T.set bM M nx (some (.blk g Ty sz els)) fun M'=>fN (Nat.succ nx) fun n=>K M' n
theorem DV (h:Sim E ρ G F M nx w) {Ty sz:Nat} {els:List (List AV)} {K:T→Nat→Bool} {xs:List Value} (hk:NN false Ty sz els M nx K=true) (hlen:∀l∈els,l.length=sz) (hsz:0<sz) (hd:aJ E ρ els.flatten=some xs):
  ∃M' ρ',ρ.Le ρ'∧ρ' nx=some ⟨w.heap.size,0⟩∧Sim E ρ' G F M' (nx+1) (w.alloc (.cells xs.toArray Ty))∧K M' (nx+1)=true:=by
 obtain⟨M',k1,k2,k3⟩:=T.set_ok _ _ _ _ _ hk
 rw[bX]at k1
 have hn:=h.fresh nx (acR _)
 exact⟨M',ρ.set nx ⟨w.heap.size,0⟩,Ren.le_set _ hn,Ren.set_self _ _ _,h.alloc (o:=.blk false Ty sz els) hn (Nat.le_succ _) (Nat.lt_succ_self _) ⟨hlen,hsz,xs.toArray,xs,rfl,hd,by simp⟩ k2 k3,k1⟩
noncomputable def Oh (Ty:Nat) (cs:List AV) (M:T) (nx:Nat) (K:AV→T→Nat→Bool):Bool:=NN false Ty (dG cs) [cs] M nx fun M' n=>K (.ptr nx 0) M' n
theorem Mg (h:Sim E ρ G F M nx w) {Ty:Nat} {cs:List AV} {K:AV→T→Nat→Bool} {xs:List Value} (hk:Oh Ty cs M nx K=true) (hd:aJ E ρ cs=some xs) (h0:cs≠[]):
  ∃M' ρ',ρ.Le ρ'∧Sim E ρ' G F M' (nx+1) (w.alloc (.cells xs.toArray Ty))∧K (.ptr nx 0) M' (nx+1)=true∧den E ρ' (.ptr nx 0)=some (.pointer (some ⟨w.heap.size,0,none⟩)):=by
 obtain⟨M',ρ',h1,h2,h3,h4⟩:=DV h (xs:=xs) hk (fun l hl=>by simp only[List.mem_singleton]at hl;subst hl;exact(cj _).symm) (by rw[cj];exact List.length_pos_iff.2 h0) (by simpa using hd)
 exact⟨M',ρ',h1,h3,h4,by simp[den,h2]⟩
theorem Uf (h:Sim E ρ G F M nx w) {Ty:Nat} {cs:List AV} {K:AV→T→Nat→Bool} {zs:Array Value} (hz:nY P Ty=some zs) (hd:aJ E ρ cs=some zs.toList) (h0:cs≠[]) (hk:Oh Ty cs M nx K=true):
  ∃v M' nx' ρ' w' z,ρ.Le ρ'∧Sim E ρ' G F M' nx' w'∧K v M' nx'=true∧den E ρ' v=some z∧(Instr.alloc Ty true (.tuple #[])).run P w= .ok z w':=by
 obtain⟨M',ρ',h1,h2,h3,h4⟩:=Mg h hk hd h0
 refine⟨_,M',_,ρ',_,_,h1,h2,h3,h4,?_⟩
 obtain⟨z,hz1,hz2⟩:=AE hz w
 subst hz2
 simp[Instr.alloc,hz1,newVar,newRow,newObj,Sem.run]
noncomputable def abx (Ty:Nat) (v:AV) (M:T) (nx:Nat) (K:AV→T→Nat→Bool):Bool:=ac (Nat.blt 0 (dG (ce v))) (Oh Ty (ce v) M nx K)
theorem WL (hE:dV E) (h:Sim E ρ G F M nx w) {Ty:Nat} {v:AV} {K:AV→T→Nat→Bool} {x:Value} (hx:den E ρ v=some x) (hk:abx Ty v M nx K=true):
  ∃v M' nx' ρ' w' z,ρ.Le ρ'∧Sim E ρ' G F M' nx' w'∧K v M' nx'=true∧den E ρ' v=some z∧(Instr.box Ty x).run P w= .ok z w':=by
 obtain⟨k0,k1⟩:=ai hk
 rw[acZ,cj]at k0
 obtain⟨M',ρ',h1,h2,h3,h4⟩:=Mg h k1 (mV hE hx) (fun e=>by rw[e]at k0;simp at k0)
 exact⟨_,M',_,ρ',_,_,h1,h2,h3,h4,by simp[Instr.box,newVar,newRow,newObj,Sem.run]⟩
theorem JT:∀(l:List Value) (cs:Array Value) (off k:Nat),off+k+l.length≤cs.size→((l.zipIdx k).foldl (fun cs p=>cs.setIfInBounds (off+p.2) p.1) cs)=ec cs (off+k) l
 |[],cs,off,k,_=>rfl
 |v::l,cs,off,k,h=>by
  simp only[acB]at h
  simp only[List.zipIdx_cons,List.foldl_cons,ec]
  rw[JT l _ off (k+1) (by simp;omega),Nat.add_assoc]
noncomputable def Hb (ps:List (Nat×AV)):List AV→(List AV→Bool)→Bool:=List.rec (fun cs K=>K cs) (fun p _ ih cs K=>upd cs p.1 (ce p.2) fun cs'=>ih cs' K) ps
theorem Bt (hE:dV E) {place:Nat→Option (Nat×Nat)}:∀{ps:List (Nat×AV)} {is:List Nat} {vs:List Value} {cs:List AV} {K:List AV→Bool} {zs:Array Value},Hb ps cs K=true→aJ E ρ cs=some zs.toList→
  aJ E ρ (ps.map (·.2))=some vs→ps.length=is.length→(∀(k:Nat) (p:Nat×AV) (i:Nat) (y:Value),ps[k]?=some p→is[k]?=some i→vs[k]?=some y→place i=some (p.1,y.cells.size))→
  ∃cs' zs',K cs'=true∧aJ E ρ cs'=some zs'.toList∧Instr.fill place zs (is.zip vs)=some zs'∧zs'.size=zs.size
 |[],is,vs,cs,K,zs,h,hd,hv,hl,_=>by
  have:is=[]:=by cases is<;>simp at hl ⊢
  subst this
  exact⟨cs,zs,h,hd,by simp[Instr.fill],rfl⟩
 |(off,v)::ps,is,vs,cs,K,zs,h,hd,hv,hl,hp=>by
  obtain⟨i,is,rfl⟩:∃i is',is=i::is':=by
   cases is with
   |nil=>simp at hl
   |cons i is=>exact⟨i,is,rfl⟩
  have h':upd cs off (ce v) (fun cs'=>Hb ps cs' K)=true:=h
  obtain⟨h1,h2⟩:=dA h'
  obtain⟨y,ys,hy,hys,rfl⟩:=bh (v:=v) (r:=ps.map (·.2)) hv
  have hc:=mV hE hy
  have hcl:=cm hc
  have hdl:=cm hd
  have hpl:=hp 0 (off,v) i y rfl rfl rfl
  have hb:off+y.cells.size≤zs.size:=by
   rw[←Array.length_toList (xs:=y.cells),hcl,←Array.length_toList (xs:=zs),hdl];exact h2
  have hsp:=oy y.cells.toList zs off (by rw[Array.length_toList];exact hb)
  have hd2:aJ E ρ (cs.take off++ce v++cs.drop (off+(ce v).length))=some (ec zs off y.cells.toList).toList:=by
   rw[hsp]
   refine dW (dW (mg _ hd) hc) ?_
   rw[hcl]
   exact mh _ hd
  obtain⟨cs',zs',g1,g2,g3,g4⟩:=Bt hE (place:=place) (ps:=ps) (is:=is) h1 hd2 hys (by simpa using hl) fun k p i y e1 e2 e3=>hp (k+1) p i y (by simpa using e1) (by simpa using e2) (by simpa using e3)
  refine⟨cs',zs',g1,g2,?_,by rw[g4,oa]⟩
  simp only[List.zip_cons_cons,Instr.fill,hpl]
  rw[if_neg (by simp;omega)]
  rw[←Array.foldl_toList,Array.toList_zipIdx]
  have:=JT y.cells.toList zs off 0 (by rw[Array.length_toList];omega)
  rw[Nat.add_zero]at this
  simp only[this]
  exact g3
def pg (P:Program) (t:TypeId) (i:Nat):Option (Nat×Nat):=match P.underlying t with
 |some (.struct fs)=>match fs[i]? with
  |some f=>(szOf P f.type).map fun n=>(f.offset,n)
  |none=>none
 |some (.array _ e)=>(szOf P e).map fun n=>(i*n,n)
 |some (.slice e)=>(szOf P e).map fun n=>(i*n,n)
 |_=>none
def CY (P:Program) (t:TypeId):Bool:=match P.underlying t with
 |some (.struct fs)=>fs.toList.all fun f=>(szOf P f.type).isSome
 |some (.array _ e)=>(szOf P e).isSome
 |_=>false
theorem NL {fs:List Field} (h:∀f∈fs,(szOf P f.type).isSome=true) (w:World):∃l:List (Nat×Nat),(fs.mapM (fun f=>(do pure (f.offset,←sizeOf f.type):Sem (Nat×Nat)))).run P w= .ok l w∧l.length=fs.length∧∀(i:Nat) (f:Field) (n:Nat),fs[i]?=some f→szOf P f.type=some n→l[i]?=some (f.offset,n):=by
 induction fs with
 |nil=>exact⟨[],by simp[List.mapM_nil],rfl,fun i f n h=>by simp at h⟩
 |cons f fs ih=>
  obtain⟨l,h1,h2,h3⟩:=ih fun g hg=>h g (by simp[hg])
  obtain⟨n,hn⟩:=Option.isSome_iff_exists.1 (h f (by simp))
  refine⟨(f.offset,n)::l,?_,by simp[h2],fun i g m hi hm=> ?_⟩
  ·simp only[List.mapM_cons,acN,Go.Eng.run_sizeOf hn,acM,h1,Sem.run_pure]
  ·cases i with
   |zero=>
    simp at hi;subst hi
    rw[hn]at hm;cases hm
    rfl
   |succ i=>simpa using h3 i g m (by simpa using hi) hm
theorem PT {t:TypeId} {zs zs':Array Value} (hz:nY P t=some zs) (hf:CY P t=true) {is:List Nat} {vs:List Value} (hl:is.length=vs.length) (hfill:Instr.fill (pg P t) zs (is.zip vs)=some zs') (hin:∀i∈is,pg P t i≠none) (w:World):
  (Instr.build t (is.zip vs).toArray).run P w= .ok (.agg zs') w:=by
 obtain⟨z,hz1,rfl⟩:=AE hz w
 unfold CY at hf
 have hcong:∀(place place':Nat→Option (Nat×Nat)) (l:List (Nat×Value)) (zs:Array Value),(∀p∈l,place p.1=place' p.1)→Instr.fill place zs l=Instr.fill place' zs l:=by
  intro place place' l
  induction l with
  |nil=>intro zs _;rfl
  |cons p l ih=>
   intro zs h
   obtain⟨i,v⟩:=p
   simp only[Instr.fill,h (i,v) (by simp)]
   split
   ·rfl
   ·split
    ·rfl
    ·exact ih _ fun q hq=>h q (by simp[hq])
 have hmem:∀p∈is.zip vs,p.1∈is:=fun p hp=>(List.of_mem_zip hp).1
 split at hf
 ·rename_i fs hu
  obtain⟨l,h1,h2,h3⟩:=NL (P:=P) (fs:=fs.toList) (fun f hf'=>by have:=List.all_eq_true.1 hf f hf';simpa using this) w
  have hm:(fs.mapM (fun f=>(do pure (f.offset,←sizeOf f.type):Sem (Nat×Nat)))).run P w= .ok l.toArray w:=by
   rw[Array.mapM_eq_mapM_toList]
   show Sem.run P (List.mapM _ fs.toList >>= fun a=>pure a.toArray) w=_
   rw[acN,h1]
   rfl
  simp only[Instr.build,acN,hz1,acM,run_underlying hu,hm]
  rw[hcong _ (pg P t) _ _ (fun p hp=> ?_),hfill]
  ·rfl
  ·have hne:=hin p.1 (hmem p hp)
   unfold pg at hne ⊢
   rw[hu]at hne ⊢
   simp only at hne ⊢
   rcases hf':fs[p.1]? with _|f
   ·simp[hf']at hne
   ·simp only[hf']at hne ⊢
    rcases hs:szOf P f.type with _|n
    ·simp[hs]at hne
    ·simpa using h3 p.1 f n (by simpa using hf') hs
 ·rename_i n e hu
  obtain⟨m,hm⟩:=Option.isSome_iff_exists.1 hf
  have hp:∀i,pg P t i=some (i*m,m):=fun i=>by simp[pg,hu,hm]
  simp only[Instr.build,acN,hz1,acM,run_underlying hu,Go.Eng.run_sizeOf hm]
  rw[hcong _ (pg P t) _ _ (fun p _=>(hp p.1).symm),hfill]
  rfl
 ·cases hf
noncomputable def abz (z:List AV) (ps:List (Nat×AV)) (K:AV→Bool):Bool:=Hb ps z fun cs=>K (.agg cs)
def yV (P:Program) (t:TypeId) (is:List Nat) (ps:List (Nat×Nat)):Bool:=decide (is.map (pg P t)=ps.map some)
theorem WM (hE:dV E) {t:TypeId} {z:List AV} {zs:Array Value} (hz:nY P t=some zs) (hzd:aJ E ρ z=some zs.toList) (hf:CY P t=true) {is:List Nat} {ps:List (Nat×Nat)} (hp:yV P t is ps=true) {vs:List AV} {ys:List Value} {K:AV→Bool}
  (hv:aJ E ρ vs=some ys) (hlen:vs.length=is.length) (hsz:∀(k:Nat) (p:Nat×Nat) (y:Value),ps[k]?=some p→ys[k]?=some y→y.cells.size=p.2) (hk:abz z ((ps.map (·.1)).zip vs) K=true):
  ∃u x,den E ρ u=some x∧K u=true∧∀w,(Instr.build t (is.zip ys).toArray).run P w= .ok x w:=by
 have hp:is.map (pg P t)=ps.map some:=of_decide_eq_true hp
 have hpl:ps.length=is.length:=by have:=congrArg List.length hp;simpa using this.symm
 have hyl:=cm hv
 have h2:((ps.map (·.1)).zip vs).map (·.2)=vs:=by
  rw[List.map_snd_zip];simp;omega
 obtain⟨cs',zs',g1,g2,g3,g4⟩:=Bt hE (place:=pg P t) (is:=is) (vs:=ys) hk hzd (by rw[h2];exact hv) (by simp;omega) fun k p i y e1 e2 e3=>by
  have h3:(is.map (pg P t))[k]?=(ps.map some)[k]?:=by rw[hp]
  rw[acV,acV,e2]at h3
  obtain⟨q,hq,hq2⟩:∃q,ps[k]?=some q∧p.1=q.1:=by
   rw[List.getElem?_zip_eq_some]at e1
   rw[acV]at e1
   obtain⟨e4,_⟩:=e1
   rcases hq:ps[k]? with _|q
   ·rw[hq]at e4;simp at e4
   ·rw[hq]at e4;simp at e4;exact⟨q,rfl,e4.symm⟩
  rw[hq]at h3
  simp at h3
  rw[h3,hq2,hsz k q y hq e3]
 refine⟨_,.agg zs',by simp[den,g2],g1,fun w=>PT hz hf (by omega) g3 (fun i hi=> ?_) w⟩
 obtain⟨k,hk'⟩:=List.mem_iff_getElem?.1 hi
 have h3:(is.map (pg P t))[k]?=(ps.map some)[k]?:=by rw[hp]
 rw[acV,acV,hk']at h3
 rcases hq:ps[k]? with _|q
 ·rw[hq]at h3;simp at h3
 ·rw[hq]at h3;simp at h3;rw[h3];simp
end
noncomputable def Kg (sz:Nat):Nat→List AV→(List (List AV)→Bool)→Bool:=Nat.rec (fun l K=>List.casesOn l (K []) (fun _ _=>false)) (fun _ ih l K=>wJ l sz fun a=>ih (uk l sz) fun r=>K (a::r))
theorem Gw {sz:Nat}:∀{n:Nat} {l:List AV} {K:List (List AV)→Bool},Kg sz n l K=true→∃els,K els=true∧els.flatten=l∧(∀e∈els,e.length=sz)∧els.length=n
 |0,l,K,h=>by
  cases l with
  |nil=>exact⟨[],h,rfl,by simp,rfl⟩
  |cons a l=>cases h
 |n+1,l,K,h=>by
  have h':wJ l sz (fun a=>Kg sz n (uk l sz) fun r=>K (a::r))=true:=h
  obtain⟨h1,h2⟩:=tJ h'
  rw[rh]at h1
  obtain⟨els,h3,h4,h5,h6⟩:=Gw h1
  refine⟨_,h3,?_,?_,by simp[h6]⟩
  ·rw[acG,h4,List.take_append_drop]
  ·intro e he
   rcases List.mem_cons.1 he with rfl|he
   ·rw[acQ];omega
   ·exact h5 e he
noncomputable def NM (z:List AV):Nat→(List (List AV)→Bool)→Bool:=Nat.rec (fun K=>K []) (fun _ ih K=>ih fun r=>K (z::r))
theorem LQ (z:List AV):∀(n:Nat) (K:List (List AV)→Bool),NM z n K=K (List.replicate n z)
 |0,_=>rfl
 |n+1,K=>by
  have:NM z (n+1) K=NM z n (fun r=>K (z::r)):=rfl
  rw[this,LQ z n];rfl
theorem Tj {z:Array Value} {sz:Nat} (hz:z.size=sz) (h0:0<sz) (c:Nat):madeCells z (c*sz)=(List.replicate c z.toList).flatten.toArray:=by
 apply Array.ext'
 apply List.ext_getElem?
 intro i
 have hfl:(List.replicate c z.toList).flatten.length=c*sz:=by
  rw[eP (sz:=sz) (fun l hl=>by rw[List.eq_of_mem_replicate hl];simpa using hz)]
  simp
 rcases Nat.lt_or_ge i (c*sz) with hi|hi
 ·have hr:i % sz<sz:=Nat.mod_lt _ h0
  have hq:i / sz<c:=Nat.div_lt_of_lt_mul (by rw[Nat.mul_comm];exact hi)
  have h1:(List.replicate c z.toList)[i / sz]?=some z.toList:=by rw[List.getElem?_replicate];simp[hq]
  have h2:z.toList[i % sz]?=some (z[i % sz]'(by omega)):=by simp
  have h3:=xX (sz:=sz) (fun l hl=>by rw[List.eq_of_mem_replicate hl];simpa using hz) h1 h2
  rw[Nat.mul_comm,Nat.div_add_mod]at h3
  simp only[List.toList_toArray]
  rw[h3]
  simp[madeCells,hi,hz,hr]
 ·rw[List.getElem?_eq_none (by simp[madeCells];exact hi),List.getElem?_eq_none (by simp only[List.toList_toArray];omega)]
section
variable {P:Program} {E:Env} {ρ:Ren} {G:GS} {F:List aA} {M:T} {nx:Nat} {w:World}
noncomputable def abw (Ty sz len:Nat) (z:List AV) (ps:List (Nat×AV)) (M:T) (nx:Nat) (K:AV→T→Nat→Bool):Bool:=
 ac (Nat.blt 0 sz) (Hb ps z fun cs=>Kg sz len cs fun els=>NN false Ty sz els M nx fun M' n=>K (.sl nx 0 len (.ex len)) M' n)
def yK (P:Program) (Ty sz len:Nat):Option (List Value):=match P.info? Ty with
 |some i=>match i.zero with
  |some z=>bif Nat.beq i.size sz&&Nat.ble (len*sz) 16777216&&Nat.beq z.cells.size sz then some ((List.range (len*sz)).map fun j=>z.cells[j % sz]!) else none
  |none=>none
 |none=>none
theorem WK (hE:dV E) (h:Sim E ρ G F M nx w) {t Ty sz len:Nat} (ht:P.underlying t=some (.slice Ty)) {z:List AV} {zs:List Value} (hz:yK P Ty sz len=some zs) (hzd:aJ E ρ z=some zs) {is:List Nat} {ps:List (Nat×Nat)}
  (hp:yV P t is ps=true) {vs:List AV} {ys:List Value} {K:AV→T→Nat→Bool} (hv:aJ E ρ vs=some ys) (hlen:vs.length=is.length) (hsz:∀(k:Nat) (p:Nat×Nat) (y:Value),ps[k]?=some p→ys[k]?=some y→y.cells.size=p.2)
  (hk:abw Ty sz len z ((ps.map (·.1)).zip vs) M nx K=true):
  ∃v M' nx' ρ' w' x,ρ.Le ρ'∧Sim E ρ' G F M' nx' w'∧K v M' nx'=true∧den E ρ' v=some x∧(Instr.buildSlice t len (is.zip ys).toArray).run P w= .ok x w':=by
 obtain⟨hs0,hk⟩:=ai hk
 rw[acZ]at hs0
 have hp:is.map (pg P t)=ps.map some:=of_decide_eq_true hp
 have hpl:ps.length=is.length:=by have:=congrArg List.length hp;simpa using this.symm
 have hyl:=cm hv
 have h2:((ps.map (·.1)).zip vs).map (·.2)=vs:=by
  rw[List.map_snd_zip];simp;omega
 unfold yK at hz
 rcases hi:P.info? Ty with _|inf
 ·simp[hi]at hz
 rcases hi2:inf.zero with _|z0
 ·simp[hi,hi2]at hz
 simp only[hi,hi2]at hz
 cases hb:(Nat.beq inf.size sz&&Nat.ble (len*sz) 16777216&&Nat.beq z0.cells.size sz) with
 |false=>simp[hb]at hz
 |true=>
 simp only[hb,cond_true,acU]at hz
 simp only[acT,Nat.beq_eq,Nat.ble_eq]at hb
 obtain⟨⟨q1,q2⟩,q3⟩:=hb
 have hszof:szOf P Ty=some sz:=by simp[szOf,hi,q1]
 have hplc:∀i,pg P t i=some (i*sz,sz):=fun i=>by simp[pg,ht,hszof]
 obtain⟨cs',zs',g1,g2,g3,g4⟩:=Bt hE (place:=fun i=>some (i*sz,sz)) (is:=is) (vs:=ys) (zs:=zs.toArray) hk (by simpa using hzd) (by rw[h2];exact hv) (by simp;omega) fun k p i y e1 e2 e3=>by
  have h3:(is.map (pg P t))[k]?=(ps.map some)[k]?:=by rw[hp]
  rw[acV,acV,e2]at h3
  obtain⟨q,hq,hq2⟩:∃q,ps[k]?=some q∧p.1=q.1:=by
   rw[List.getElem?_zip_eq_some,acV]at e1
   obtain⟨e4,_⟩:=e1
   rcases hq:ps[k]? with _|q
   ·rw[hq]at e4;simp at e4
   ·rw[hq]at e4;simp at e4;exact⟨q,rfl,e4.symm⟩
  rw[hq]at h3
  simp only[Option.map_some,acU,hplc]at h3
  rw[h3,hq2,hsz k q y hq e3]
 obtain⟨els,k1,k2,k3,k4⟩:=Gw g1
 obtain⟨M',ρ',m1,m2,m3,m4⟩:=DV h k1 k3 hs0 (by rw[k2];exact g2)
 refine⟨_,M',_,ρ',_,_,m1,m3,m4,by simp[den,m2,dc];rfl,?_⟩
 have e1:((Array.range (len*sz)).map (z0.cells[· % z0.cells.size]!))=zs.toArray:=by
  rw[←hz,q3]
  apply Array.ext'
  simp
 have hszr:=Go.Eng.run_sizeOf hszof
 have hzv:(zeroValue Ty:Sem Value).run P w= .ok z0 w:=by simp[zeroValue,typeInfo,hi,hi2]
 simp only[Instr.buildSlice,acN,run_underlying ht,acM,hszr,if_neg (show¬len*sz > 2 ^ 24 by omega)]
 by_cases h0:len*sz=0
 ·have hzs:zs=[]:=by rw[←hz,h0];rfl
  simp only[h0,if_true,Sem.run_pure,acM,Array.range_zero',Array.map_empty]
  rw[hzs]at g3
  simp[g3,newRow,newObj,Sem.run]
 ·simp only[h0,if_false,acN,hzv,acM,Sem.run_pure,e1,g3]
  simp[newRow,newObj,Sem.run]
noncomputable def aaL (Ty sz bytes:Nat) (z:List AV) (vl vc:AV) (M:T) (nx:Nat) (K:AV→T→Nat→Bool):Bool:=
 jc vl fun _ l=>jc vc fun _ c=>Int.casesOn l (fun l=>Int.casesOn c (fun c=>ac (Nat.ble l c) (ac (Nat.ble (Nat.mul bytes c) 1000000) (ac (Nat.ble c 1000000) (ac (Nat.blt 0 sz) (ac (Nat.beq (dG z) sz) (NM z c fun els=>NN false Ty sz els M nx fun M' n=>K (.sl nx 0 l (.ex c)) M' n))))))
  (fun _=>false)) (fun _=>false)
theorem VS (h:Sim E ρ G F M nx w) {t Ty sz bytes:Nat} (ht:P.underlying t=some (.slice Ty)) (he:lw P Ty sz bytes=true) {z:List AV} {zs:Array Value} (hz:nY P Ty=some zs) (hzd:aJ E ρ z=some zs.toList) {vl vc:AV} {xl xc:Value} (hl:den E ρ vl=some xl) (hc:den E ρ vc=some xc)
  {K:AV→T→Nat→Bool} (hk:aaL Ty sz bytes z vl vc M nx K=true):∃v M' nx' ρ' w' x,ρ.Le ρ'∧Sim E ρ' G F M' nx' w'∧K v M' nx'=true∧den E ρ' v=some x∧(Instr.makeSlice t xl xc).run P w= .ok x w':=by
 obtain⟨k1,l,rfl,hk1⟩:=iS hk
 obtain⟨k2,c,rfl,hk2⟩:=iS hk1
 cases hl;cases hc
 cases l with
 |negSucc l=>cases hk2
 |ofNat l=>
 cases c with
 |negSucc c=>cases hk2
 |ofNat c=>
 obtain⟨a1,b1⟩:=ai (b:=Nat.ble l c) hk2
 obtain⟨a2,b2⟩:=ai b1
 obtain⟨a3,b3⟩:=ai b2
 obtain⟨a4,b4⟩:=ai b3
 obtain⟨a5,b5⟩:=ai b4
 rw[LQ]at b5
 rw[Nat.ble_eq]at a1 a2 a3
 have a2:bytes*c≤1000000:=a2
 rw[acZ]at a4
 have a5:z.length=sz:=by rw[←cj];exact acE a5
 obtain⟨inf,z0,i1,i2,i3,i4,i5,i6⟩:=mU he
 have hz0:zs=z0.cells:=by
  unfold nY at hz
  simp only[i1,Option.bind_some,i2,Option.map_some,acU]at hz
  exact hz.symm
 have hrep:∀n,aJ E ρ (List.replicate n z).flatten=some (List.replicate n zs.toList).flatten:=by
  intro n
  induction n with
  |zero=>rfl
  |succ n ih=>simp only[List.replicate_succ,acG];exact dW hzd ih
 obtain⟨M',ρ',m1,m2,m3,m4⟩:=DV h b5 (fun e he=>by rw[List.eq_of_mem_replicate he];exact a5) a4 (hrep c)
 have hcells:madeCells z0.cells (c*inf.size)=(List.replicate c zs.toList).flatten.toArray:=by
  subst hz0
  rw[i3]
  exact Tj (by rw[i4]) i6 c
 refine⟨_,M',_,ρ',_,_,m1,m3,m4,by simp[den,m2,dc];rfl,?_⟩
 have hr:=Go.run_make (P:=P) w t Ty inf z0 ht i1 i2 (aH k1) (aH k2) (Int.ofNat l) (Int.ofNat c) (by simp) (by simp;exact a1) (by
   rw[i5]
   have:((bytes*c:Nat):Int)≤1000000:=by omega
   rw[Int.natCast_mul]at this
   simp only[Int.ofNat_eq_natCast]
   omega) (by simp only[Int.ofNat_eq_natCast];omega)
 rw[hr]
 simp only[Int.ofNat_eq_natCast,Int.toNat_natCast,hcells]
end
section
variable {P:Program} {E:Env} {ρ:Ren} {G:GS} {F:List aA} {M:T} {nx:Nat} {w:World}
noncomputable def faX (off:Nat) (v:AV) (K:AV→Bool):Bool:=mX v fun i o=>fN (Nat.add o off) fun o=>K (.ptr i o)
theorem abe {off:Nat} {v:AV} {K:AV→Bool} {x:Value} {t i:Nat} (h:pb P t i=some off) (hv:den E ρ v=some x) (hk:faX off v K=true):∃u z,den E ρ u=some z∧K u=true∧∀w,(Instr.fieldAt t x i).run P w= .ok z w:=by
 obtain⟨j,o,rfl,k1⟩:=iG hk
 rw[bX]at k1
 simp only[den]at hv
 split at hv
 ·rename_i e he
  cases hv
  refine⟨_,.pointer (some ⟨e.b,o+off,none⟩),by simp only[den,he];rfl,k1,fun w=> ?_⟩
  have h':=h
  unfold pb at h'
  rcases ht:P.underlying t with _|d
  ·simp[ht]at h'
  rw[ht]at h'
  cases d<;>simp at h'
  rename_i fs
  rcases hf:fs[i]? with _|f
  ·simp[hf]at h'
  simp[Instr.fieldAt,Instr.sureAddr,run_underlying ht,hf,nr ht hf h]
 ·cases hv
noncomputable def aaF (v:AV) (K:AV→Bool):Bool:=AV.casesOn v false (fun k z=>K (.int k z)) (fun b=>K (.bool b)) (fun l=>K (.str l)) (fun i o=>K (.ptr i o)) (fun i o n c=>K (.sl i o n c)) (fun i=>K (.map i)) false false false false false (fun t v=>K (.iface t v)) (fun f c=>K (.fn f c)) (fun _=>false) (fun _=>false) (fun _=>false) (fun _=>false) (fun _=>false)
theorem VO {v:AV} {K:AV→Bool} {x:Value} (hv:den E ρ v=some x) (hk:aaF v K=true) {a:Act} {o:Operand} (ha:a.eval o=x) {dst:Option Tmp} {ty:TypeId} {pos:String} {af:Array Edge} {g:Option (Nat×Bool)}:
  K v=true∧∀w,(execOp a.eval ⟨dst,.nilCheck o,ty,pos,af,g⟩).run P w= .ok (.value x) w:=by
 cases v<;>first|(cases hk;done)|skip
 case int k z=>cases hv;exact⟨hk,fun w=>by simp[execOp,ha]⟩
 case bool b=>cases hv;exact⟨hk,fun w=>by simp[execOp,ha]⟩
 case str l=>cases hv;exact⟨hk,fun w=>by simp[execOp,ha]⟩
 all_goals
  refine⟨hk,fun w=> ?_⟩
  unfold den at hv
  split at hv<;>first|(cases hv;done)|skip
  cases hv
  simp[execOp,ha]
noncomputable def zD (v:AV) (K:Nat→Nat→Bool):Bool:=jc v fun k z=>Int.casesOn z (fun n=>K k n) (fun _=>false)
theorem rn {v:AV} {K:Nat→Nat→Bool} (h:zD v K=true):∃k n,v= .int k (.ofNat n)∧K k n=true:=by
 obtain⟨k,z,rfl,h1⟩:=iS h
 cases z with
 |ofNat n=>exact⟨k,n,rfl,h1⟩
 |negSucc n=>cases h1
noncomputable def aa3 (n sz:Nat) (v iv:AV) (K:AV→Bool):Bool:=mX v fun i o=>zD iv fun _ z=>ac (Nat.blt z n) (fN (Nat.add o (Nat.mul z sz)) fun o=>K (.ptr i o))
theorem Wq {n sz:Nat} {v iv:AV} {K:AV→Bool} {x y:Value} {t e:TypeId} (ht:P.underlying t=some (.array n e)) (hs:szOf P e=some sz) (hv:den E ρ v=some x) (hi:den E ρ iv=some y) (hk:aa3 n sz v iv K=true):
  ∃u z,den E ρ u=some z∧K u=true∧∀w,(Instr.indexAt t x y).run P w= .ok z w:=by
 obtain⟨j,o,rfl,k1⟩:=iG hk
 obtain⟨kd,z,rfl,k2⟩:=rn k1
 obtain⟨hz,k3⟩:=ai k2
 rw[bX]at k3
 rw[acZ]at hz
 simp only[den]at hv
 split at hv
 ·rename_i f hf
  cases hv;cases hi
  refine⟨_,.pointer (some ⟨f.b,o+z*sz,none⟩),by simp only[den,hf];rfl,k3,fun w=> ?_⟩
  simp[Instr.indexAt,Instr.sureAddr,asIntOf,run_underlying ht,Go.Eng.run_sizeOf hs,hz,da]
 ·cases hv
noncomputable def aa1 (sz:Nat) (v iv:AV) (K:AV→Bool):Bool:=rm v false fun i o n _=>zD iv fun _ z=>ac (Nat.blt z n) (fN (Nat.add o (Nat.mul z sz)) fun o=>K (.ptr i o))
theorem Wo {sz:Nat} {v iv:AV} {K:AV→Bool} {x y:Value} {t e:TypeId} (ht:P.underlying t=some (.slice e)) (hs:szOf P e=some sz) (hv:den E ρ v=some x) (hi:den E ρ iv=some y) (hk:aa1 sz v iv K=true):
  ∃u z,den E ρ u=some z∧K u=true∧∀w,(Instr.indexAt t x y).run P w= .ok z w:=by
 rcases jK hk with⟨_,k1⟩|⟨j,o,n,c,rfl,k1⟩
 ·cases k1
 obtain⟨kd,z,rfl,k2⟩:=rn k1
 obtain⟨hz,k3⟩:=ai k2
 rw[bX]at k3
 rw[acZ]at hz
 simp only[den]at hv
 split at hv
 ·rename_i f hf
  cases hv;cases hi
  refine⟨_,.pointer (some ⟨f.b,o+z*sz,none⟩),by simp only[den,hf];rfl,k3,fun w=> ?_⟩
  simp[Instr.indexAt,asIntOf,run_underlying ht,Go.Eng.run_sizeOf hs,hz,da]
 ·cases hv
noncomputable def abb (agg:Bool) (off n:Nat) (v:AV) (K:AV→Bool):Bool:=asAgg v fun cs=>aY agg (wJ (uk cs off) n fun l=>K (.agg l)) (dj (eC cs off) K)
theorem DZ {agg:Bool} {off n:Nat} {cs:List AV} {K:AV→Bool} {xs:List Value} (hd:aJ E ρ cs=some xs) (hk:aY agg (wJ (uk cs off) n fun l=>K (.agg l)) (dj (eC cs off) K)=true) {t:TypeId} (hag:isAg P t=some agg) (hs:szOf P t=some n):
  ∃u z,den E ρ u=some z∧K u=true∧∀w,(part t xs.toArray off).run P w= .ok z w:=by
 rcases aX hk with⟨rfl,k1⟩|⟨rfl,k1⟩
 ·obtain⟨k2,hle⟩:=tJ k1
  rw[rh]at k2 hle
  have hd2:=mg n (mh off hd)
  refine⟨_,.agg ((xs.drop off).take n).toArray,by simp only[den,hd2],k2,fun w=> ?_⟩
  simp[part,Go.Eng.run_isAgg hag,Go.Eng.run_sizeOf hs]
 ·obtain⟨u,hu,k2⟩:=bq k1
  rw[fA]at hu
  obtain⟨z,h1,h2⟩:=mj hd hu
  refine⟨u,z,h1,k2,fun w=> ?_⟩
  simp[part,Go.Eng.run_isAgg hag,h2]
theorem Ww {agg:Bool} {off n:Nat} {v:AV} {K:AV→Bool} {x:Value} {t i:TypeId} {fs:Array Field} {f:Field} (ht:P.underlying t=some (.struct fs)) (hf:fs[i]?=some f) (ho:f.offset=off) (hag:isAg P f.type=some agg) (hs:szOf P f.type=some n)
  (hv:den E ρ v=some x) (hk:abb agg off n v K=true):∃u z,den E ρ u=some z∧K u=true∧∀w,(Instr.field t x i).run P w= .ok z w:=by
 obtain⟨cs,rfl,k1⟩:=eQ hk
 simp only[den]at hv
 split at hv
 ·rename_i xs hd
  cases hv
  obtain⟨u,z,h1,h2,h3⟩:=DZ hd k1 hag hs
  refine⟨u,z,h1,h2,fun w=> ?_⟩
  subst ho
  simp[Instr.field,run_underlying ht,hf,Go.asAgg,h3]
 ·cases hv
noncomputable def aaZ (agg:Bool) (n sz:Nat) (v i:AV) (K:AV→Bool):Bool:=asAgg v fun cs=>zD i fun _ j=>ac (Nat.blt j n) (aY agg (wJ (uk cs (Nat.mul j sz)) sz fun l=>K (.agg l)) (dj (eC cs (Nat.mul j sz)) K))
theorem Wm {agg:Bool} {n sz:Nat} {v i:AV} {K:AV→Bool} {x y:Value} {t e:TypeId} (ht:P.underlying t=some (.array n e)) (hag:isAg P e=some agg) (hs:szOf P e=some sz)
  (hv:den E ρ v=some x) (hi:den E ρ i=some y) (hk:aaZ agg n sz v i K=true):∃u z,den E ρ u=some z∧K u=true∧∀w,(Instr.index t x y).run P w= .ok z w:=by
 obtain⟨cs,rfl,k1⟩:=eQ hk
 obtain⟨k,j,rfl,k2⟩:=rn k1
 obtain⟨k3,k4⟩:=ai k2
 rw[acZ]at k3
 simp only[den]at hv
 cases hi
 split at hv
 ·rename_i xs hd
  cases hv
  obtain⟨u,z,h1,h2,h3⟩:=DZ hd k4 hag hs
  refine⟨u,z,h1,h2,fun w=> ?_⟩
  have hj:(j:Int)<(n:Int):=by omega
  have e:((j:Int)).toNat=j:=Int.toNat_natCast j
  have hm:Nat.mul j sz=j*sz:=rfl
  rw[hm]at h3
  simp[Instr.index,asIntOf,run_underlying ht,Go.Eng.run_sizeOf hs,k3,h3]
 ·cases hv
noncomputable def Ba (d:Nat) (o:Option AV) (K:Nat→Bool):Bool:=Option.casesOn o (K d) fun v=>zD v fun _ n=>K n
theorem pR {d:Nat} {o:Option AV} {K:Nat→Bool} (h:Ba d o K=true):∃n,K n=true∧((o=none∧n=d)∨∃k,o=some (.int k (.ofNat n))):=by
 cases o with
 |none=>exact⟨d,h,.inl ⟨rfl,rfl⟩⟩
 |some v=>
  obtain⟨k,n,rfl,h1⟩:=rn (v:=v) h
  exact⟨n,h1,.inr ⟨k,rfl⟩⟩
def rj (E:Env) (ρ:Ren) (o:Option AV) (x:Option Value):Prop:=(o=none∧x=none)∨∃v y,o=some v∧x=some y∧den E ρ v=some y
theorem jv {o:Option AV} {x:Option Value} {d n:Nat} (h:rj E ρ o x) (hn:(o=none∧n=d)∨∃k,o=some (.int k (.ofNat n))):(x=none∧n=d)∨∃k,x=some (.int k (.ofNat n)):=by
 rcases h with⟨rfl,rfl⟩|⟨v,y,rfl,rfl,hd⟩
 ·rcases hn with⟨_,rfl⟩|⟨k,hk⟩
  ·exact .inl ⟨rfl,rfl⟩
  ·cases hk
 ·rcases hn with⟨hh,_⟩|⟨k,hk⟩
  ·cases hh
  ·cases hk;cases hd;exact .inr ⟨_,rfl⟩
theorem eH {isS:Bool} {len cap:Nat} {lo hi mx:Option Value} {l h m:Nat} (hl:(lo=none∧l=0)∨∃k,lo=some (.int k (.ofNat l))) (hh:(hi=none∧h=len)∨∃k,hi=some (.int k (.ofNat h))) (hm:(mx=none∧m=cap)∨∃k,mx=some (.int k (.ofNat m)))
  (hmh:mx≠none→hi≠none) (h1:l≤h) (h2:h≤m) (h3:m≤cap) (w:World):(Instr.sliceBounds isS len cap lo hi mx).run P w= .ok (l,h,m) w:=by
 have sb:∀(k:IntKind) (n y:Nat) (c:BoundsCode),n≤y→(Instr.sliceBound (.int k (n:Int)) y c).run P w= .ok n w:=by
  intro k n y c hn
  simp[Instr.sliceBound,asIntOf,hn]
 rcases hm with⟨rfl,rfl⟩|⟨km,rfl⟩
 ·rcases hh with⟨rfl,rfl⟩|⟨kh,rfl⟩
  ·rcases hl with⟨rfl,rfl⟩|⟨kl,rfl⟩
   ·simp[Instr.sliceBounds]
   ·simp[Instr.sliceBounds,sb _ _ _ _ h1]
  ·rcases hl with⟨rfl,rfl⟩|⟨kl,rfl⟩
   ·simp[Instr.sliceBounds,sb _ _ _ _ h2]
   ·simp[Instr.sliceBounds,sb _ _ _ _ h2,sb _ _ _ _ h1]
 ·rcases hh with⟨rfl,rfl⟩|⟨kh,rfl⟩
  ·exact absurd rfl (hmh (by simp))
  ·rcases hl with⟨rfl,rfl⟩|⟨kl,rfl⟩
   ·simp[Instr.sliceBounds,sb _ _ _ _ h2,sb _ _ _ _ h3]
   ·simp[Instr.sliceBounds,sb _ _ _ _ h2,sb _ _ _ _ h3,sb _ _ _ _ h1]
noncomputable def kO {α:Type _} (o:Option α):Bool:=Option.casesOn o false fun _=>true
noncomputable def ZH (sz:Nat) (v:AV) (lo hi mx:Option AV) (M:T) (K:AV→Bool):Bool:=
 rm v (Ba 0 lo fun l=>Ba 0 hi fun h=>Ba 0 mx fun m=>ac (Nat.beq l 0) (ac (Nat.beq h 0) (ac (Nat.beq m 0) (ac (Bool.or (Bool.not (kO mx)) (kO hi)) (K .nilS)))))
  fun i o n c=>Ba 0 lo fun l=>Ba n hi fun h=>ac (Nat.ble l h) (Option.casesOn mx
   (ACap.casesOn c
    (fun cc=>ac (Nat.ble h cc) (aY (Nat.beq cc l) (fN (Nat.sub h l) fun hl=>fN (Nat.sub cc l) fun cl=>K (.sl i o hl (.ex cl))) (fN (Nat.sub h l) fun hl=>fN (Nat.sub cc l) fun cl=>fN (Nat.add o (Nat.mul l sz)) fun o'=>K (.sl i o' hl (.ex cl)))))
    (fun k=>ac (Nat.ble h n) (fi M i fun g _ _ els=>ac g (ac (Nat.ble (Nat.add k n) (dG els)) (fN (Nat.sub h l) fun hl=>fN (Nat.add k l) fun kl=>fN (Nat.add o (Nat.mul l sz)) fun o'=>
     aY (Nat.blt l n) (K (.sl i o' hl (.rest kl))) (ac (K (.sl i o' hl (.rest kl))) (K (.sl i o hl (.ex 0)))))))))
   (fun _=>ac (kO hi) (Ba 0 mx fun m=>ac (Nat.ble h m) (ac (ACap.casesOn c (fun cc=>Nat.ble m cc) (fun _=>false))
    (fN (Nat.sub h l) fun hl=>fN (Nat.sub m l) fun ml=>aY (Nat.beq m l) (K (.sl i o hl (.ex ml))) (fN (Nat.add o (Nat.mul l sz)) fun o'=>K (.sl i o' hl (.ex ml))))))))
theorem Vq (h:Sim E ρ G F M nx w) {sz:Nat} {v:AV} {lo hi mx:Option AV} {K:AV→Bool} {x:Value} {xl xh xm:Option Value} {t e:TypeId} (ht:P.underlying t=some (.slice e)) (hs:szOf P e=some sz) (hv:den E ρ v=some x)
  (hlo:rj E ρ lo xl) (hhi:rj E ρ hi xh) (hmx:rj E ρ mx xm) (hk:ZH sz v lo hi mx M K=true):∃u z,den E ρ u=some z∧K u=true∧(Instr.sliceAt t x xl xh xm).run P w= .ok z w:=by
 have hrun:∀(ao:Option Addr) (n c l hh m:Nat),(Instr.sliceBounds true n c xl xh xm).run P w= .ok (l,hh,m) w→(Instr.sliceAt t (.slice ao n c) xl xh xm).run P w= .ok (.slice (if m=l then ao else ao.map (·.add (l*sz))) (hh - l) (m - l)) w:=by
  intro ao n c l hh m hb
  simp[Instr.sliceAt,Instr.slice,run_underlying ht,hb,Go.Eng.run_sizeOf hs]
 have hmh:mx=none→xm=none:=fun q=>by
  rcases hmx with⟨_,h2⟩|⟨_,_,h2,_⟩
  ·exact h2
  ·rw[q]at h2;cases h2
 rcases jK hk with⟨rfl,k1⟩|⟨i,o,n,c,rfl,k1⟩
 ·obtain⟨l,k2,hl⟩:=pR k1
  obtain⟨hh,k3,hh2⟩:=pR k2
  obtain⟨m,k4,hm⟩:=pR k3
  obtain⟨e1,k5⟩:=ai k4
  obtain⟨e2,k6⟩:=ai k5
  obtain⟨e3,k7⟩:=ai k6
  obtain⟨e4,k7⟩:=ai k7
  have e1:=acE e1
  have e2:=acE e2
  have e3:=acE e3
  subst e1;subst e2;subst e3
  cases hv
  refine⟨.nilS,.slice none 0 0,rfl,k7,?_⟩
  by_cases hx:xm≠none∧xh=none
  ·exfalso
   rcases hmx with⟨_,q⟩|⟨v',y,q1,q2,_⟩
   ·exact hx.1 q
   ·rcases hhi with⟨p1,_⟩|⟨v'',y',p1,p2,_⟩
    ·subst q1;subst p1;cases e4
    ·rw[p2]at hx;cases hx.2
  ·rw[hrun none 0 0 0 0 0 (eH (jv hlo hl) (jv hhi hh2) (jv hmx hm) (fun q q2=>hx ⟨q,q2⟩) (acR _) (acR _) (acR _) w)]
   simp
 ·obtain⟨l,k2,hl⟩:=pR k1
  obtain⟨hh,k3,hh2⟩:=pR k2
  obtain⟨hle,k4⟩:=ai k3
  rw[Nat.ble_eq]at hle
  simp only[den]at hv
  split at hv
  case h_2=>cases hv
  rename_i f hf
  cases hv
  cases mx with
  |none=>
   have hxm:=hmh rfl
   subst hxm
   cases c with
   |ex cc=>
    obtain⟨hc,k5⟩:=ai k4
    rw[Nat.ble_eq]at hc
    have hb:=eH (P:=P) (isS:=true) (len:=n) (jv hlo hl) (jv hhi hh2) (.inl ⟨rfl,rfl⟩) (fun q=>absurd rfl q) hle hc (acR cc) w
    have hr:=hrun (some ⟨f.b,o,none⟩) n cc l hh cc hb
    rcases aX k5 with⟨q,k6⟩|⟨q,k6⟩
    ·have q:=acE q
     subst q
     rw[bX,bX]at k6
     exact⟨_,.slice (some ⟨f.b,o,none⟩) (hh - cc) (cc - cc),by simp only[den,hf,dc];rfl,k6,by simpa[dc] using hr⟩
    ·rw[Oi,decide_eq_false_iff_not]at q
     rw[bX,bX,bX]at k6
     exact⟨_,.slice (some ⟨f.b,o+l*sz,none⟩) (hh - l) (cc - l),by simp only[den,hf,dc];rfl,k6,by simpa[dc,q,da] using hr⟩
   |rest k=>
    obtain⟨hn,k5⟩:=ai k4
    rw[Nat.ble_eq]at hn
    obtain⟨g,Ty,sz',els,hi',k6⟩:=cM k5
    obtain⟨hg,k7⟩:=ai k6
    subst hg
    obtain⟨hkn,k8⟩:=ai k7
    rw[Nat.ble_eq,cj]at hkn
    have hkn:k+n≤els.length:=hkn
    obtain⟨f2,arr,xs,q1,_,_,_,_,_,_,_,q9⟩:=h.cellsAt hi'
    rw[hf]at q1;cases q1
    obtain⟨_,q10,_⟩:=q9 rfl
    have hcap:n≤f.cap - k:=by omega
    have hb:=eH (P:=P) (isS:=true) (len:=n) (cap:=f.cap - k) (jv hlo hl) (jv hhi hh2) (.inl ⟨rfl,rfl⟩) (fun q=>absurd rfl q) hle (by omega) (acR _) w
    have hr:=hrun (some ⟨f.b,o,none⟩) n (f.cap - k) l hh (f.cap - k) hb
    rw[bX,bX,bX]at k8
    rcases aX k8 with⟨q,k9⟩|⟨q,k9⟩
    ·rw[acZ]at q
     exact⟨_,.slice (some ⟨f.b,o+l*sz,none⟩) (hh - l) (f.cap - (k+l)),by simp only[den,hf,dc];rfl,k9,by
      have:¬f.cap - k=l:=by omega
      simpa[dc,this,da,Nat.sub_sub] using hr⟩
    ·obtain⟨k10,k11⟩:=ai k9
     by_cases q2:f.cap - k=l
     ·exact⟨_,.slice (some ⟨f.b,o,none⟩) (hh - l) 0,by simp only[den,hf,dc];rfl,k11,by simpa[dc,q2] using hr⟩
     ·exact⟨_,.slice (some ⟨f.b,o+l*sz,none⟩) (hh - l) (f.cap - (k+l)),by simp only[den,hf,dc];rfl,k10,by
       simpa[dc,q2,da,Nat.sub_sub] using hr⟩
  |some mv=>
   obtain⟨hih,k5⟩:=ai (b:=kO hi) k4
   obtain⟨m,k6,hm⟩:=pR k5
   obtain⟨hhm,k7⟩:=ai k6
   obtain⟨hmc,k8⟩:=ai k7
   rw[Nat.ble_eq]at hhm
   cases c with
   |rest k=>cases hmc
   |ex cc=>
   have hmc:m≤cc:=by
    have:Nat.ble m cc=true:=hmc
    rwa[Nat.ble_eq]at this
   have hxh:xh≠none:=by
    rcases hhi with⟨q,_⟩|⟨_,_,_,q,_⟩
    ·rw[q]at hih;cases hih
    ·rw[q];simp
   have hmd:(xm=none∧m=cc)∨∃k,xm=some (.int k (.ofNat m)):=by
    rcases hmx with⟨q,_⟩|⟨v',y,q1,q2,q3⟩
    ·cases q
    ·rcases hm with⟨q,_⟩|⟨k,q⟩
     ·cases q
     ·cases q1;cases q;cases q3
      exact .inr ⟨_,q2⟩
   have hb:=eH (P:=P) (isS:=true) (len:=n) (cap:=cc) (jv hlo hl) (jv hhi hh2) hmd (fun _=>hxh) hle hhm hmc w
   have hr:=hrun (some ⟨f.b,o,none⟩) n cc l hh m hb
   rw[bX,bX]at k8
   rcases aX k8 with⟨q,k9⟩|⟨q,k9⟩
   ·have q:=acE q
    subst q
    exact⟨_,.slice (some ⟨f.b,o,none⟩) (hh - m) (m - m),by simp only[den,hf,dc];rfl,k9,by simpa[dc] using hr⟩
   ·rw[Oi,decide_eq_false_iff_not]at q
    rw[bX]at k9
    exact⟨_,.slice (some ⟨f.b,o+l*sz,none⟩) (hh - l) (m - l),by simp only[den,hf,dc];rfl,k9,by simpa[dc,q,da] using hr⟩
end
end Go.Sy
