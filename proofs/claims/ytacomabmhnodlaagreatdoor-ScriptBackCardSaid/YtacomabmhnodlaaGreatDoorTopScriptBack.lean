/- ScriptBack: for every script and every text the call returns true, and both read as before. Condition: the laid variables are as the program lays them (the card's own). -/
import Derived.Test.YtacomabmhnodlaaGreatDoorB5
import Derived.Test.YtacomabmhnodlaaGreatDoorRows
import Derived.Test.YtacomabmhnodlaaGreatDoorTie
import Derived.Test.YtacomabmhnodlaaGreatDoorCards
import Derived.WalkKit
import Derived.ProofKit
import Derived.OpenShut
import Derived.Below
import Derived.LaidLaws
import Derived.RowKit
import Derived.KernelRfl
import Derived.Shelf.Vars
import Derived.Stop.LaidErr
open Option.some renaming inj→acY
namespace Go.Proofs.YtacomabmhnodlaaGreatDoor.scriptBack
open Go Go.RowKit Go.Eng Go.Sy Go.ChangeShapes Go.WideShapes Go.ChangeAt
open Go.ChangeMaps (open_string)
open Go.Proofs.Tryz (aB aw ax bN aD aI lV HC pd lU ZV ZX ZW ZU)
set_option linter.unusedVariables false
set_option maxRecDepth 100000
theorem own:ownKnob Tryz.prog.godebug=none:=by kernel_rfl
theorem Wk:laidOutB Tryz.prog=true:=by kernel_rfl
theorem GI {H:Type} {enc:TypeId×Value→H} {a:Assume} {C:Checked} {os:Os} {f:FuncId} {fn:Func} {s:ChangeSpec} {conds:List PathCond} {apart fresh handsOn again:Bool} {X:World→Array Value→Prop} (hX:∀(w w':World) (args:Array Value),w.heap=w'.heap→X w args→X w' args) (own:ownKnob C.prog.godebug=none) (started:os.Started) (noInit:C.prog.inits.idxOf? f=none) (hfn:C.prog.funcs[f]?=some fn)
  (witness:∃(w:World) (tape:Tape) (i:Input),w.os=os∧(w.forCall tape i).Shaped C.prog∧i.vars=[]∧Input.okWide C.prog (w.forCall tape i) .any w.heap.size f i∧((s.pre enc C.prog fn conds apart (w.forCall tape i).memory i.args∧X (w.forCall tape i).memory i.args)∧sizedMet enc C.prog fn (OpenSpec.ofChange s) apart (w.forCall tape i).memory i.args)∧a.holds C.prog (lone (Frame.enter C.prog f i.args .normal) [] (w.forCall tape i)))
  (contract:∀(W:World) (base:Nat) (args:Array Value) (ds gs:List (DataW H)) (before:List MemPlace),(∀(j:Nat) t v,fn.params[j]?=some t→args[j]?=some v→Value.okWide C.prog W .any base t v)→DataW.Whole enc C.prog fn.params.toList s.vars apart W args.toList ds gs before→X W args→W.ShapedOpen C.prog→
   Calls C.prog f args W fun e W'=>∃v,e= .returned v∧s.post enc C.prog fn apart fresh handsOn again W args v W'):
  ReturnsInHanded a C os f .any (fun w args=>(s.pre enc C.prog fn conds apart w args∧X w args)∧sizedMet enc C.prog fn (OpenSpec.ofChange s) apart w args) (s.post enc C.prog fn apart fresh handsOn again):=by
 refine returnsInHanded_of_calls own started noInit witness ?_
 intro w tape i _ hsh _ hok hpre _
 obtain⟨_,_,_,fn',hfn',_,_,_,_,hval⟩:=hok
 obtain rfl:=acY (hfn'.symm.trans hfn)
 obtain⟨⟨⟨ds,gs,before,hw,_⟩,hx⟩,_⟩:=hpre
 refine(contract _ _ i.args ds gs before hval (DataW.Whole.of_heap (w':=w.forCall tape i) (by rfl) hw) (hX _ _ _ (by rfl) hx) hsh).mono fun e W' ⟨v,he,hp⟩=> ?_
 subst he
 exact ChangeSpec.post_blind hp
theorem Ol {W:World} (h:W.ShapedOpen Tryz.prog):∃m T fz,W.heap[0]?=some (.cells #[.int .i64 m] T fz):=by
 have hz:(((begin Tryz.prog (fun _ _=>0) default).world.heap[0]?).bind Obj.row?).map (fun x=>(x.1.size,x.2))=some (1,3):=by kernel_rfl
 obtain⟨⟨zero,t⟩,hz1,hz2⟩:=Option.map_eq_some_iff.1 hz
 simp only[Prod.mk.injEq]at hz2
 obtain⟨hz2,rfl⟩:=hz2
 obtain⟨cs,h1,h2,_⟩:=h.1 0 zero 3 (of_decide_eq_true (by kernel_rfl)) hz1
 obtain⟨m,hm⟩:=Go.Proofs.cell_of_shapedOpen_int (t:=3) (k:=.i64) h (of_decide_eq_true (by kernel_rfl)) hz1 hz2 (by kernel_rfl) (by kernel_rfl) Tryz.underlying3
 obtain⟨l⟩:=cs
 rw[hz2]at h2
 match l,h2 with
 |[v],_=>
  have:some v=some (Value.int .i64 m):=by rw[←hm];simp[World.cell?,h1]
  cases this
  exact⟨m,3,_,h1⟩
theorem ZA:("*" ++ "errors.errorString" :String)= "*errors.errorString" :=by decide
theorem LM (u:TypeId) (h:Tryz.prog.typeName? 3 u=some "*errors.errorString"):u=201:=
 typeName_ptr_named (nm:= "errors.errorString") (by rw[ZA];kernel_rfl) (by kernel_rfl) (by decide) u (by rw[ZA];exact h)
theorem DG {W:World} {n:String} {g:Nat} {c:Array Value} (hg:Tryz.prog.globalNamed n=some g) (h:W.var? Tryz.prog n=some c):∃T fz,W.heap[g]?=some (.cells c T fz):=by
 simp only[World.var?,hg,Option.bind_some]at h
 rcases hh:W.heap[g]? with _|o
 ·simp[hh]at h
 ·cases o<;>simp[hh]at h
  rename_i c T fz
  subst h
  exact⟨T,fz,rfl⟩
theorem Vk {W:World} (hL:laidMet Tryz.prog Rows.scriptBackRow.laid W) (hs:W.ShapedOpen Tryz.prog):Tied (GS.of W).M:=by
 have h10:∃T fz,W.heap[1]?=some (.cells (Lib.pow10Tab.map fun z=>Value.int .u64 z).toArray T fz):=by
  obtain⟨ps,h,_⟩:=hL.tail.tail
  obtain⟨g,t,cs,fuel,p,q,hg,ht,hvar,hd,_,_⟩:=h
  obtain rfl:=acY ((show Tryz.prog.globalNamed "internal/strconv.uint64pow10" =some 1 by kernel_rfl).symm.trans hg)
  obtain rfl:=acY ((show(Tryz.prog.globals[1]?).map (·.type)=some 177 by kernel_rfl).symm.trans ht)
  have e:=Lib.cells_of_tab (zs:=Lib.pow10Tab) (k:=.u64) Tryz.underlying177 Tryz.underlying24 (by kernel_rfl) (by kernel_rfl) hd
  obtain⟨T,fz,h⟩:=DG hg hvar
  exact⟨T,fz,by rw[h,←e]⟩
 obtain⟨a1,s1,hv1,_⟩:=laid_sentinel hL.tail.tail.tail.tail (show Tryz.prog.globalNamed "strconv.ErrRange" =some 5 by kernel_rfl) (show(Tryz.prog.globals[5]?).map (·.type)=some 93 by kernel_rfl) Tryz.underlying93 LM Tryz.underlying201 Tryz.underlying203 rfl rfl Tryz.underlying9 (by kernel_rfl) (by kernel_rfl)
 obtain⟨a2,s2,hv2,_⟩:=laid_sentinel hL.tail.tail.tail.tail.tail (show Tryz.prog.globalNamed "strconv.ErrSyntax" =some 4 by kernel_rfl) (show(Tryz.prog.globals[4]?).map (·.type)=some 93 by kernel_rfl) Tryz.underlying93 LM Tryz.underlying201 Tryz.underlying203 rfl rfl Tryz.underlying9 (by kernel_rfl) (by kernel_rfl)
 obtain⟨T1,f1,h1⟩:=DG (g:=5) (by kernel_rfl) hv1
 obtain⟨T2,f2,h2⟩:=DG (g:=4) (by kernel_rfl) hv2
 obtain⟨m,T3,f3,h3⟩:=Ol hs
 exact⟨h10,⟨_,_,T2,f2,h2⟩,⟨_,_,T1,f1,h1⟩,m,T3,f3,h3⟩
noncomputable def low:Nat:=(World.holding Tryz.prog default ⟨#[],#[],[]⟩).heap.size
noncomputable def FR (os:Os):World:=
 let w0:=World.holding Tryz.prog os ⟨#[.cells #[.string {data:= #[118,97,108,117,101,32,111,117,116,32,111,102,32,114,97,110,103,101]}] 203,.cells #[.string {data:= #[105,110,118,97,108,105,100,32,115,121,110,116,97,120]}] 203],#[],[]⟩
 {w0 with heap:=(((((((w0.heap.modify 6 fun
   |.cells _ t frozen=>.cells #[.int .u8 0,.int .u8 1,.int .u8 28,.int .u8 2,.int .u8 29,.int .u8 14,.int .u8 24,.int .u8 3,.int .u8 30,.int .u8 22,.int .u8 20,.int .u8 15,.int .u8 25,.int .u8 17,.int .u8 4,.int .u8 8,.int .u8 31,.int .u8 27,.int .u8 13,.int .u8 23,.int .u8 21,.int .u8 19,.int .u8 16,.int .u8 7,.int .u8 26,.int .u8 12,.int .u8 18,.int .u8 6,.int .u8 11,.int .u8 5,.int .u8 10,.int .u8 9] t frozen
   |o=>o).modify 7 fun
   |.cells _ t frozen=>.cells #[.int .u8 0,.int .u8 1,.int .u8 56,.int .u8 2,.int .u8 57,.int .u8 49,.int .u8 28,.int .u8 3,.int .u8 61,.int .u8 58,.int .u8 42,.int .u8 50,.int .u8 38,.int .u8 29,.int .u8 17,.int .u8 4,.int .u8 62,.int .u8 47,.int .u8 59,.int .u8 36,.int .u8 45,.int .u8 43,.int .u8 51,.int .u8 22,.int .u8 53,.int .u8 39,.int .u8 33,.int .u8 30,.int .u8 24,.int .u8 18,.int .u8 12,.int .u8 5,.int .u8 63,.int .u8 55,.int .u8 48,.int .u8 27,.int .u8 60,.int .u8 41,.int .u8 37,.int .u8 16,.int .u8 46,.int .u8 35,.int .u8 44,.int .u8 21,.int .u8 52,.int .u8 32,.int .u8 23,.int .u8 11,.int .u8 54,.int .u8 26,.int .u8 40,.int .u8 15,.int .u8 34,.int .u8 20,.int .u8 31,.int .u8 10,.int .u8 25,.int .u8 14,.int .u8 19,.int .u8 9,.int .u8 13,.int .u8 8,.int .u8 7,.int .u8 6] t frozen
   |o=>o).modify 1 fun
   |.cells _ t frozen=>.cells #[.int .u64 1,.int .u64 10,.int .u64 100,.int .u64 1000,.int .u64 10000,.int .u64 100000,.int .u64 1000000,.int .u64 10000000,.int .u64 100000000,.int .u64 1000000000,.int .u64 10000000000,.int .u64 100000000000,.int .u64 1000000000000,.int .u64 10000000000000,.int .u64 100000000000000,.int .u64 1000000000000000,.int .u64 10000000000000000,.int .u64 100000000000000000,.int .u64 1000000000000000000,.int .u64 10000000000000000000] t frozen
   |o=>o).modify 3 fun
   |.cells _ t frozen=>.cells #[.int .u8 128,.int .u8 191,.int .u8 160,.int .u8 191,.int .u8 128,.int .u8 159,.int .u8 144,.int .u8 191,.int .u8 128,.int .u8 143,.int .u8 0,.int .u8 0,.int .u8 0,.int .u8 0,.int .u8 0,.int .u8 0,.int .u8 0,.int .u8 0,.int .u8 0,.int .u8 0,.int .u8 0,.int .u8 0,.int .u8 0,.int .u8 0,.int .u8 0,.int .u8 0,.int .u8 0,.int .u8 0,.int .u8 0,.int .u8 0,.int .u8 0,.int .u8 0] t frozen
   |o=>o).modify 5 fun
   |.cells _ t frozen=>.cells #[.iface 201 (.pointer (some ⟨low+0,0,none⟩))] t frozen
   |o=>o).modify 4 fun
   |.cells _ t frozen=>.cells #[.iface 201 (.pointer (some ⟨low+1,0,none⟩))] t frozen
   |o=>o).modify 2 fun
   |.cells _ t frozen=>.cells #[.int .u8 240,.int .u8 240,.int .u8 240,.int .u8 240,.int .u8 240,.int .u8 240,.int .u8 240,.int .u8 240,.int .u8 240,.int .u8 240,.int .u8 240,.int .u8 240,.int .u8 240,.int .u8 240,.int .u8 240,.int .u8 240,.int .u8 240,.int .u8 240,.int .u8 240,.int .u8 240,.int .u8 240,.int .u8 240,.int .u8 240,.int .u8 240,.int .u8 240,.int .u8 240,.int .u8 240,.int .u8 240,.int .u8 240,.int .u8 240,.int .u8 240,.int .u8 240,.int .u8 240,.int .u8 240,.int .u8 240,.int .u8 240,.int .u8 240,.int .u8 240,.int .u8 240,.int .u8 240,.int .u8 240,.int .u8 240,.int .u8 240,.int .u8 240,.int .u8 240,.int .u8 240,.int .u8 240,.int .u8 240,.int .u8 240,.int .u8 240,.int .u8 240,.int .u8 240,.int .u8 240,.int .u8 240,.int .u8 240,.int .u8 240,.int .u8 240,.int .u8 240,.int .u8 240,.int .u8 240,.int .u8 240,.int .u8 240,.int .u8 240,.int .u8 240,.int .u8 240,.int .u8 240,.int .u8 240,.int .u8 240,.int .u8 240,.int .u8 240,.int .u8 240,.int .u8 240,.int .u8 240,.int .u8 240,.int .u8 240,.int .u8 240,.int .u8 240,.int .u8 240,.int .u8 240,.int .u8 240,.int .u8 240,.int .u8 240,.int .u8 240,.int .u8 240,.int .u8 240,.int .u8 240,.int .u8 240,.int .u8 240,.int .u8 240,.int .u8 240,.int .u8 240,.int .u8 240,.int .u8 240,.int .u8 240,.int .u8 240,.int .u8 240,.int .u8 240,.int .u8 240,.int .u8 240,.int .u8 240,.int .u8 240,.int .u8 240,.int .u8 240,.int .u8 240,.int .u8 240,.int .u8 240,.int .u8 240,.int .u8 240,.int .u8 240,.int .u8 240,.int .u8 240,.int .u8 240,.int .u8 240,.int .u8 240,.int .u8 240,.int .u8 240,.int .u8 240,.int .u8 240,.int .u8 240,.int .u8 240,.int .u8 240,.int .u8 240,.int .u8 240,.int .u8 240,.int .u8 240,.int .u8 240,.int .u8 240,.int .u8 240,.int .u8 241,.int .u8 241,.int .u8 241,.int .u8 241,.int .u8 241,.int .u8 241,.int .u8 241,.int .u8 241,.int .u8 241,.int .u8 241,.int .u8 241,.int .u8 241,.int .u8 241,.int .u8 241,.int .u8 241,.int .u8 241,.int .u8 241,.int .u8 241,.int .u8 241,.int .u8 241,.int .u8 241,.int .u8 241,.int .u8 241,.int .u8 241,.int .u8 241,.int .u8 241,.int .u8 241,.int .u8 241,.int .u8 241,.int .u8 241,.int .u8 241,.int .u8 241,.int .u8 241,.int .u8 241,.int .u8 241,.int .u8 241,.int .u8 241,.int .u8 241,.int .u8 241,.int .u8 241,.int .u8 241,.int .u8 241,.int .u8 241,.int .u8 241,.int .u8 241,.int .u8 241,.int .u8 241,.int .u8 241,.int .u8 241,.int .u8 241,.int .u8 241,.int .u8 241,.int .u8 241,.int .u8 241,.int .u8 241,.int .u8 241,.int .u8 241,.int .u8 241,.int .u8 241,.int .u8 241,.int .u8 241,.int .u8 241,.int .u8 241,.int .u8 241,.int .u8 241,.int .u8 241,.int .u8 2,.int .u8 2,.int .u8 2,.int .u8 2,.int .u8 2,.int .u8 2,.int .u8 2,.int .u8 2,.int .u8 2,.int .u8 2,.int .u8 2,.int .u8 2,.int .u8 2,.int .u8 2,.int .u8 2,.int .u8 2,.int .u8 2,.int .u8 2,.int .u8 2,.int .u8 2,.int .u8 2,.int .u8 2,.int .u8 2,.int .u8 2,.int .u8 2,.int .u8 2,.int .u8 2,.int .u8 2,.int .u8 2,.int .u8 2,.int .u8 19,.int .u8 3,.int .u8 3,.int .u8 3,.int .u8 3,.int .u8 3,.int .u8 3,.int .u8 3,.int .u8 3,.int .u8 3,.int .u8 3,.int .u8 3,.int .u8 3,.int .u8 35,.int .u8 3,.int .u8 3,.int .u8 52,.int .u8 4,.int .u8 4,.int .u8 4,.int .u8 68,.int .u8 241,.int .u8 241,.int .u8 241,.int .u8 241,.int .u8 241,.int .u8 241,.int .u8 241,.int .u8 241,.int .u8 241,.int .u8 241,.int .u8 241] t frozen
   |o=>o)}
theorem GH (os:Os) (args:Array Value):laidMet Tryz.prog Rows.scriptBackRow.laid ((FR os).forCall (fun _ _=>0) ⟨#[],args,[]⟩).memory:=
 laidMet_of_run' 8 (by kernel_rfl) (by kernel_rfl)
theorem aad (b:Bool):aC (b=true)=b:=by cases b<;>simp[aC]
theorem Tt:kR Tryz.prog 20 118=some [5,5,9,9,2]:=by kernel_rfl
theorem aak {H:Type} {en:TypeId×Value→H} {W:World} {fuel:Nat} {cs:List Value} {x:DataW H×List MemPlace} (h:DataW.trod en Tryz.prog W 0 (fun _=>true) true fuel 77 cs=some x):
  ∃(ao:Option Addr) (cap:Nat) (t:List aB),cs=[.slice ao t.length cap]∧OkP (GS.of W).M (.imm (.slice ao t.length cap) 5 aB t Go.Proofs.Tryz.encP)∧∀x∈t,lV x:=by
 rcases Go.Deep.open_slice Tryz.underlying77 h with⟨rfl,_⟩|⟨a,len,cap,m,n,D,Pl,rfl,_,hl,hm,rfl,_,hel⟩
 ·exact⟨none,0,[],rfl,.imm none 0 rfl (by simp) (by decide) (by decide) (fun q=>by simp at q) (fun x hx=>by simp at hx) (fun x hx=>by simp at hx) (fun i x hx=>by simp at hx),fun x hx=>by simp at hx⟩
 ·obtain⟨t,ht,hp⟩:=zm (p:=fun i (x:aB)=>W.cells? 0 (a.add (i*5)) 5=some ((Go.Proofs.Tryz.encP x).map bD)∧(∀q∈Go.Proofs.Tryz.encP x,OkP (GS.of W).M q)∧lV x) len (fun i hi=>by
   obtain⟨cs2,h1,h2⟩:=hel i (by first|omega|(simp;omega))
   obtain⟨hlen,hleaf⟩:=pA 20 118 _ Tt _ _ _ h2
   obtain⟨c0,c1,c2,c3,c4,rfl⟩:∃c0 c1 c2 c3 c4,cs2=[c0,c1,c2,c3,c4]:=by
    match cs2,hlen with
    |[c0,c1,c2,c3,c4],_=>exact⟨c0,c1,c2,c3,c4,rfl⟩
   obtain⟨z0,rfl,wz0⟩:=cZ Tryz.underlying5 (hleaf 0 _ _ rfl rfl)
   obtain⟨z1,rfl,wz1⟩:=cZ Tryz.underlying5 (hleaf 1 _ _ rfl rfl)
   obtain⟨z2,rfl,wz2⟩:=IR Tryz.underlying9 (hleaf 2 _ _ rfl rfl)
   obtain⟨z3,rfl,wz3⟩:=IR Tryz.underlying9 (hleaf 3 _ _ rfl rfl)
   obtain⟨z4,rfl,wz4⟩:=cZ Tryz.underlying2 (hleaf 4 _ _ rfl rfl)
   refine⟨⟨z0,z1,z2,z3,z4⟩,?_,?_,ZV wz0 wz1 wz4⟩
   ·exact h1
   ·intro q hq;simp only[Go.Proofs.Tryz.encP,List.mem_cons,List.not_mem_nil,or_false]at hq
    rcases hq with rfl|rfl|rfl|rfl|rfl<;>first|exact .sint _ _|exact .sstr _|exact .sbool _)
  subst ht
  have r:=HJ (base:=0) (en:=fun x=>(Go.Proofs.Tryz.encP x).map bD) (w:=W) hl hm (by decide) (fun _=>rfl) (fun i x hx=>(hp i x hx).1)
  exact⟨some a,_,t,rfl,.imm (some a) _ rfl r.le r.cap (by decide) r.addr (fun x _=>rfl) (fun x hx=>by
   obtain⟨i,hi⟩:=List.mem_iff_getElem?.1 hx
   exact(hp i x hi).2.1) r.row,fun x hx=>by
   obtain⟨i,hi⟩:=List.mem_iff_getElem?.1 hx
   exact(hp i x hi).2.2⟩
theorem Wg:kR Tryz.prog 20 69=some [3,3,4]:=by kernel_rfl
theorem aam {H:Type} {en:TypeId×Value→H} {W:World} {fuel:Nat} {cs:List Value} {x:DataW H×List MemPlace} (h:DataW.trod en Tryz.prog W 0 (fun _=>true) true fuel 32 cs=some x):
  ∃(ao:Option Addr) (cap:Nat) (t:List aw),cs=[.slice ao t.length cap]∧OkP (GS.of W).M (.imm (.slice ao t.length cap) 3 aw t aD)∧∀x∈t,HC x:=by
 rcases Go.Deep.open_slice Tryz.underlying32 h with⟨rfl,_⟩|⟨a,len,cap,m,n,D,Pl,rfl,_,hl,hm,rfl,_,hel⟩
 ·exact⟨none,0,[],rfl,.imm none 0 rfl (by simp) (by decide) (by decide) (fun q=>by simp at q) (fun x hx=>by simp at hx) (fun x hx=>by simp at hx) (fun i x hx=>by simp at hx),fun x hx=>by simp at hx⟩
 ·obtain⟨t,ht,hp⟩:=zm (p:=fun i (x:aw)=>W.cells? 0 (a.add (i*3)) 3=some ((aD x).map bD)∧(∀q∈aD x,OkP (GS.of W).M q)∧HC x) len (fun i hi=>by
   obtain⟨cs2,h1,h2⟩:=hel i (by first|omega|(simp;omega))
   obtain⟨hlen,hleaf⟩:=pA 20 69 _ Wg _ _ _ h2
   obtain⟨c0,c1,c2,rfl⟩:∃c0 c1 c2,cs2=[c0,c1,c2]:=by
    match cs2,hlen with
    |[c0,c1,c2],_=>exact⟨c0,c1,c2,rfl⟩
   obtain⟨z0,rfl,wz0⟩:=cZ Tryz.underlying3 (hleaf 0 _ _ rfl rfl)
   obtain⟨z1,rfl,wz1⟩:=cZ Tryz.underlying3 (hleaf 1 _ _ rfl rfl)
   obtain⟨z2,rfl⟩:=QF Tryz.underlying4 (hleaf 2 _ _ rfl rfl)
   refine⟨⟨z0,z1,z2=true⟩,?_,?_,ZX wz0 wz1⟩
   ·refine Eq.trans h1 ?_;simp only[aD,List.map_cons,List.map_nil,bD,aH,aad]
   ·intro q hq;simp only[aD,List.mem_cons,List.not_mem_nil,or_false]at hq
    rcases hq with rfl|rfl|rfl<;>first|exact .sint _ _|exact .sstr _|exact .sbool _)
  subst ht
  have r:=HJ (base:=0) (en:=fun x=>(aD x).map bD) (w:=W) hl hm (by decide) (fun _=>rfl) (fun i x hx=>(hp i x hx).1)
  exact⟨some a,_,t,rfl,.imm (some a) _ rfl r.le r.cap (by decide) r.addr (fun x _=>rfl) (fun x hx=>by
   obtain⟨i,hi⟩:=List.mem_iff_getElem?.1 hx
   exact(hp i x hi).2.1) r.row,fun x hx=>by
   obtain⟨i,hi⟩:=List.mem_iff_getElem?.1 hx
   exact(hp i x hi).2.2⟩
theorem Wf:kR Tryz.prog 20 79=some [3,3,3,3,3,3,51,5,77]:=by kernel_rfl
theorem aal {H:Type} {en:TypeId×Value→H} {W:World} {fuel:Nat} {cs:List Value} {x:DataW H×List MemPlace} (h:DataW.trod en Tryz.prog W 0 (fun _=>true) true fuel 35 cs=some x):
  ∃(ao:Option Addr) (cap:Nat) (t:List ax),cs=[.slice ao t.length cap]∧OkP (GS.of W).M (.imm (.slice ao t.length cap) 9 ax t aI)∧∀x∈t,pd x:=by
 rcases Go.Deep.open_slice Tryz.underlying35 h with⟨rfl,_⟩|⟨a,len,cap,m,n,D,Pl,rfl,_,hl,hm,rfl,_,hel⟩
 ·exact⟨none,0,[],rfl,.imm none 0 rfl (by simp) (by decide) (by decide) (fun q=>by simp at q) (fun x hx=>by simp at hx) (fun x hx=>by simp at hx) (fun i x hx=>by simp at hx),fun x hx=>by simp at hx⟩
 ·obtain⟨t,ht,hp⟩:=zm (p:=fun i (x:ax)=>W.cells? 0 (a.add (i*9)) 9=some ((aI x).map bD)∧(∀q∈aI x,OkP (GS.of W).M q)∧pd x) len (fun i hi=>by
   obtain⟨cs2,h1,h2⟩:=hel i (by first|omega|(simp;omega))
   obtain⟨hlen,hleaf⟩:=pA 20 79 _ Wf _ _ _ h2
   obtain⟨c0,c1,c2,c3,c4,c5,c6,c7,c8,rfl⟩:∃c0 c1 c2 c3 c4 c5 c6 c7 c8,cs2=[c0,c1,c2,c3,c4,c5,c6,c7,c8]:=by
    match cs2,hlen with
    |[c0,c1,c2,c3,c4,c5,c6,c7,c8],_=>exact⟨c0,c1,c2,c3,c4,c5,c6,c7,c8,rfl⟩
   obtain⟨z0,rfl,wz0⟩:=cZ Tryz.underlying3 (hleaf 0 _ _ rfl rfl)
   obtain⟨z1,rfl,wz1⟩:=cZ Tryz.underlying3 (hleaf 1 _ _ rfl rfl)
   obtain⟨z2,rfl,wz2⟩:=cZ Tryz.underlying3 (hleaf 2 _ _ rfl rfl)
   obtain⟨z3,rfl,wz3⟩:=cZ Tryz.underlying3 (hleaf 3 _ _ rfl rfl)
   obtain⟨z4,rfl,wz4⟩:=cZ Tryz.underlying3 (hleaf 4 _ _ rfl rfl)
   obtain⟨z5,rfl,wz5⟩:=cZ Tryz.underlying3 (hleaf 5 _ _ rfl rfl)
   obtain⟨z6,rfl,wz6⟩:=cZ Tryz.underlying51 (hleaf 6 _ _ rfl rfl)
   obtain⟨z7,rfl,wz7⟩:=cZ Tryz.underlying5 (hleaf 7 _ _ rfl rfl)
   obtain⟨_,_,hs8⟩:=hleaf 8 _ _ rfl rfl
   obtain⟨ao8,cap8,t8,e8,ok8,rg8⟩:=aak hs8
   obtain rfl:c8=_:=by simpa using e8
   refine⟨⟨z0,z1,z2,z3,z4,z5,z6,z7,.slice ao8 t8.length cap8,t8⟩,?_,?_,ZW wz0 wz1 wz2 wz3 wz4 wz5 wz6 wz7 rg8⟩
   ·exact h1
   ·intro q hq;simp only[aI,List.mem_cons,List.not_mem_nil,or_false]at hq
    rcases hq with rfl|rfl|rfl|rfl|rfl|rfl|rfl|rfl|rfl<;>first|exact .sint _ _|exact .sstr _|exact .sbool _|exact ok8)
  subst ht
  have r:=HJ (base:=0) (en:=fun x=>(aI x).map bD) (w:=W) hl hm (by decide) (fun _=>rfl) (fun i x hx=>(hp i x hx).1)
  exact⟨some a,_,t,rfl,.imm (some a) _ rfl r.le r.cap (by decide) r.addr (fun x _=>rfl) (fun x hx=>by
   obtain⟨i,hi⟩:=List.mem_iff_getElem?.1 hx
   exact(hp i x hi).2.1) r.row,fun x hx=>by
   obtain⟨i,hi⟩:=List.mem_iff_getElem?.1 hx
   exact(hp i x hi).2.2⟩
theorem aaV:kR Tryz.prog 20 37=some [32,3,3,3,3,3,3,24,35]:=by kernel_rfl
theorem ab5 (a:bN) (t:List UInt8) (w:World) (hr:lU a) (ht:Tied (GS.of w).M) (oga:OkP (GS.of w).M (.imm a.hg 3 aw a.gs aD)) (ooa:OkP (GS.of w).M (.imm a.ho 9 ax a.os aI)):Calls Tryz.prog 4 #[.agg #[a.hg,.int .i64 a.clients,.int .i64 a.window,.int .i64 a.deadline,.int .i64 a.pace,.int .i64 a.again,.int .i64 a.bag,.int .u64 a.first,a.ho],S t] w (Ret (GS.of w) [] fun _ v=>v= .bool true):=by
 let K:AV→T→Nat→Bool:=fun v _ _=>aC (v= .bool true∨∃q:Prop,q∧v= .sy (.bool q))
 have hE:dV ⟨fun _=>.bool true,(GS.of w).M⟩:=⟨fun i=>rfl,ht⟩
 have hd:aJ ⟨fun _=>.bool true,(GS.of w).M⟩ (fun _=>none) [.agg [.sy (.imm a.hg 3 aw a.gs aD),.sy (.int 0 a.clients),.sy (.int 0 a.window),.sy (.int 0 a.deadline),.sy (.int 0 a.pace),.sy (.int 0 a.again),.sy (.int 0 a.bag),.sy (.int 4 a.first),.sy (.imm a.ho 9 ax a.os aI)],.sy (.str t)]=some [.agg #[a.hg,.int .i64 a.clients,.int .i64 a.window,.int .i64 a.deadline,.int .i64 a.pace,.int .i64 a.again,.int .i64 a.bag,.int .u64 a.first,a.ho],S t]:=by
  simp only[aJ,den,bb,jJ (E:=⟨fun _=>.bool true,(GS.of w).M⟩) oga,jJ (E:=⟨fun _=>.bool true,(GS.of w).M⟩) ooa,bD,aH]
 refine Tryz.na_scriptBack [.agg [.sy (.imm a.hg 3 aw a.gs aD),.sy (.int 0 a.clients),.sy (.int 0 a.window),.sy (.int 0 a.deadline),.sy (.int 0 a.pace),.sy (.int 0 a.again),.sy (.int 0 a.bag),.sy (.int 4 a.first),.sy (.imm a.ho 9 ax a.os aI)],.sy (.str t)] [.agg #[a.hg,.int .i64 a.clients,.int .i64 a.window,.int .i64 a.deadline,.int .i64 a.pace,.int .i64 a.again,.int .i64 a.bag,.int .u64 a.first,a.ho],S t] ⟨fun _=>.bool true,(GS.of w).M⟩ (fun _=>none) (GS.of w) [] .leaf 0 w K _ hE (Sim.start rfl (Holds.start w)) hd ?_ ?_
 ·exact aK ⟨a,t⟩ (ba rfl (ba (by exact hr) (aE (prB_true.2 (.inl rfl)) (az fun r=>QQ (fun hq=>prB_true.2 (.inr ⟨_,hq,rfl⟩)) fun _=>rfl))))
 ·intro v M' nx' E' ρ' w' z hk h1 h2 h3 h4 h5
  obtain⟨G',g1,g2,g3⟩:=h4.holds
  refine⟨z,G',rfl,g1,g2,?_⟩
  rcases prB_true.1 hk with rfl|⟨q,hq,rfl⟩
  ·simpa[den] using h5.symm
  ·have e:some (Value.bool (aC q))=some z:=h5
   cases e
   rw[prB_true.2 hq]
theorem aaS (os:Os) (started:os.Started) (H:Type) (enc:TypeId×Value→H):
  ReturnsInHanded {} Tryz.checked os 4 .any (fun w args=>(Rows.scriptBackSpec.pre enc Tryz.prog Tryz.f4 Rows.scriptBackRow.domain false w args∧laidMet Tryz.prog Rows.scriptBackRow.laid w)∧sizedMet enc Tryz.prog Tryz.f4 (OpenSpec.ofChange Rows.scriptBackSpec) false w args)
   (Rows.scriptBackSpec.post enc Tryz.prog Tryz.f4 false true false false):=by
 refine GI (C:=Tryz.checked) (X:=fun w _=>laidMet Tryz.prog Rows.scriptBackRow.laid w) (fun _ _ _ hh h=>h.of_heap hh) own started (by kernel_rfl) Tryz.func4
  (ChangeSpec.witness_at (enc:=enc) (C:=Tryz.checked) (os:=os) (X:=fun w _=>laidMet Tryz.prog Rows.scriptBackRow.laid w) false (FR os) #[.agg #[.slice none 0 0,.int .i64 0,.int .i64 0,.int .i64 0,.int .i64 0,.int .i64 0,.int .i64 0,.int .u64 0,.slice none 0 0],.string ⟨#[]⟩] 8 rfl (by kernel_rfl) (by kernel_rfl) (by kernel_rfl) (by kernel_rfl) (by kernel_rfl) (GH os _)) ?_
 intro W base args ds gs before hval0 hW hL hsh
 have hval:∀(j:Nat) t v,Tryz.f4.params[j]?=some t→args[j]?=some v→Value.okWide Tryz.prog W .any base t v:=hval0
 have hW':=hW
 obtain⟨p,q,hA0,hV,rfl,hfz,hnd⟩:=hW
 have hA:DataW.TrodAll enc Tryz.prog W 0 (fun _=>true) true Tryz.f4.params.toList args.toList ds p:=hA0
 rw[Tryz.params4]at hA hval
 obtain⟨v0,vs0,d0,ds0,p0,q0,hargs0,rfl,rfl,h0,r0⟩:=trodAll_cons hA
 obtain⟨v1,vs1,d1,ds1,p1,q1,hargs1,rfl,rfl,h1,r1⟩:=trodAll_cons r0
 obtain⟨rfl,rfl,rfl⟩:=trodAll_nil r1
 subst hargs1
 obtain rfl:args= #[v0,v1]:=by cases args;simp_all
 obtain⟨rfl,rfl⟩:=trodVars_none hV
 have j0:=h0
 obtain⟨cs0,rfl,hsz0⟩:=okWide_struct Tryz.underlying37 (hval 0 37 v0 rfl rfl)
 have lt0:∀x∈p0,x.block<W.heap.size:=by obtain⟨m,hm⟩:=j0;exact DataW.trod_lt m _ _ _ hm
 obtain⟨fuel0,hf0⟩:=h0
 obtain⟨hlen0,hleaf0⟩:=pA 20 37 _ aaV _ _ _ hf0
 obtain⟨ac0,ac1,ac2,ac3,ac4,ac5,ac6,ac7,ac8,hcs0⟩:∃ac0 ac1 ac2 ac3 ac4 ac5 ac6 ac7 ac8,Value.cells (.agg cs0)= #[ac0,ac1,ac2,ac3,ac4,ac5,ac6,ac7,ac8]:=by
  match h:(Value.cells (.agg cs0)).toList,hlen0 with
  |[ac0,ac1,ac2,ac3,ac4,ac5,ac6,ac7,ac8],_=>exact⟨ac0,ac1,ac2,ac3,ac4,ac5,ac6,ac7,ac8,Array.toList_inj.1 h⟩
 have hd0:cs0= #[ac0,ac1,ac2,ac3,ac4,ac5,ac6,ac7,ac8]:=hcs0
 rw[hcs0]at hleaf0
 obtain⟨_,_,hsa0⟩:=hleaf0 0 _ _ rfl rfl
 obtain⟨aoa0,capa0,ta0,ea0,oka0,rga0⟩:=aam hsa0
 obtain rfl:ac0=_:=by simpa using ea0
 obtain⟨az1,rfl,waz1⟩:=cZ Tryz.underlying3 (hleaf0 1 _ _ rfl rfl)
 obtain⟨az2,rfl,waz2⟩:=cZ Tryz.underlying3 (hleaf0 2 _ _ rfl rfl)
 obtain⟨az3,rfl,waz3⟩:=cZ Tryz.underlying3 (hleaf0 3 _ _ rfl rfl)
 obtain⟨az4,rfl,waz4⟩:=cZ Tryz.underlying3 (hleaf0 4 _ _ rfl rfl)
 obtain⟨az5,rfl,waz5⟩:=cZ Tryz.underlying3 (hleaf0 5 _ _ rfl rfl)
 obtain⟨az6,rfl,waz6⟩:=cZ Tryz.underlying3 (hleaf0 6 _ _ rfl rfl)
 obtain⟨az7,rfl,waz7⟩:=cZ Tryz.underlying24 (hleaf0 7 _ _ rfl rfl)
 obtain⟨_,_,hsa8⟩:=hleaf0 8 _ _ rfl rfl
 obtain⟨aoa8,capa8,ta8,ea8,oka8,rga8⟩:=aal hsa8
 obtain rfl:ac8=_:=by simpa using ea8
 subst hd0
 obtain⟨s,rfl,rfl,rfl,ws⟩:=open_string Tryz.underlying9 (hval 1 9 v1 rfl rfl) h1
 clear hA0 hval0
 simp only[List.append_nil]at hW'
 have hw:=ab5 ⟨.slice aoa0 ta0.length capa0,ta0,az1,az2,az3,az4,az5,az6,az7,.slice aoa8 ta8.length capa8,ta8⟩ s.data.toList W (ZU waz1 waz2 waz3 waz4 waz5 waz6 waz7 rga0 rga8) (Vk hL hsh) oka0 oka8
 refine hw.mono fun e W2 ⟨v,G2,he,hG,hh,hv⟩=> ?_
 subst he;subst hv
 have bel:Below W.heap.size W W2:=Holds.below hG hh
 exact⟨_,rfl,_,_,_,[],_,[],hW',trodAll_mk1 (shut_bool Tryz.underlying4 _),(trodAll_cons_mk (Below.trod Wk (by kernel_rfl) (of_decide_eq_true (by kernel_rfl)) j0 bel lt0) (trodAll_cons_mk (Go.ChangeMaps.shut_string Tryz.underlying9 ws) trodAll_mk0)),rfl,bel.frame _,fun h=>by cases h⟩
theorem acb:Rows.scriptBackRow.holds Tryz.pinned (OpenSpec.ofChange Rows.scriptBackSpec):=
 OpenClaim.holds_of_wide 4 Tryz.f4 rfl rfl rfl rfl rfl rfl rfl ⟨rfl,rfl,rfl,rfl,rfl⟩ rfl rfl rfl rfl rfl (by kernel_rfl) Tryz.func4 (by kernel_rfl)
  (of_decide_eq_true (by kernel_rfl)) (by unfold Func.isWrapper;first|(rw[if_pos (by decide+kernel)];kernel_rfl)|(rw[if_neg (by decide+kernel)];exact⟨rfl,rfl⟩))
  (fun os started H enc _=>aaS os started H enc)
theorem card_holds:Rows.ScriptBackCardSaid:=
 Claim7.holds_tied_plain_at .later [] [.data,.data,.data,.data,.sentinel,.sentinel,.pinned] true (true, "f5b48b6c725d48ba83e4cb7b9d4fe1110f5c1b25068be60b15a811864d174d86") true acb (fun _ h=>by cases h) (by kernel_rfl) (fun _ h=>by cases h) scriptBack_row_tie rfl ⟨rfl,rfl⟩ (by kernel_rfl) rfl
  (fun f fn hf hfn=>by
   obtain rfl:f=4:=acY ((show Tryz.prog.funcNamed "gemot/gemotlaw27.ScriptBack" =some 4 by kernel_rfl).symm.trans hf)|>.symm
   obtain rfl:fn=Tryz.f4:=(acY (Tryz.func4.symm.trans hfn)).symm
   exact⟨by kernel_rfl,fun j t ht=>by
    rw[Tryz.params4]at ht
    have ht2:=List.mem_of_getElem? (by simpa using ht)
    simp only[List.mem_cons,List.not_mem_nil,or_false,or_self]at ht2
    rcases ht2 with rfl|rfl
    ·exact(show Tryz.prog.wantsStandIn 37=false by kernel_rfl)
    ·exact(show Tryz.prog.wantsStandIn 9=false by kernel_rfl)
    ⟩)
  (by kernel_rfl)
#print axioms card_holds
end Go.Proofs.YtacomabmhnodlaaGreatDoor.scriptBack
