/- ScriptParses: for every text the call returns true, and the text reads as before. Condition: the laid variables are as the program lays them (the card's own). -/
import Derived.Test.YtacomabmhnodlaaGreatDoorM5
import Derived.RangeFuncCalls
import Derived.Lib.IndexBytes
import Derived.Lib.Strings
import Derived.KernelRfl
import Derived.Test.YtacomabmhnodlaaGreatDoorRows
import Derived.Test.YtacomabmhnodlaaGreatDoorTie
import Derived.Test.YtacomabmhnodlaaGreatDoorCards
import Derived.WalkKit
import Derived.ProofKit
import Derived.OpenShut
import Derived.Below
import Derived.LaidLaws
import Derived.RowKit
import Derived.Shelf.Vars
import Derived.Stop.LaidErr
open List renaming flatten_cons→aaH,mem_of_getElem?→aaG
open Option.some renaming inj→aaZ
open Prod.mk renaming injEq→aa1
namespace Go.Proofs.YtacomabmhnodlaaGreatDoor
open Go Go.RowKit Go.Shelf
def Lq (A X:World→Prop):Exit→Act→World→Prop
 |.normal,_,W=>A W
 |.ret,_,W=>X W
 |_,_,_=>False
theorem AM {g:Operand} {ps:Array Tmp} {assign body:Code} {Q:Exit→Act→World→Prop} {a:Act} {w:World} {Bs:Nat} (hg:a.eval g= .func (.func 44) #[] #[.pointer (some ⟨Bs,0,none⟩)]) (hps:ps.size=1)
  (J:ByteArray→ByteArray→Obj→World→Prop) (Jx:Obj→World→Prop)
  (hl:∀r b o W,J r b o W→W.heap[w.heap.size+1]?=some o) (hput:∀r b o o' W,J r b o W→J r b o' (W.putObj (w.heap.size+1) o'))
  (hset:∀r b b' o W,b'.size≤100000→J r b o W→J r b' o (W.setCell ⟨Bs,0,none⟩ (.string b'))) (hdrw:∀r b o W,J r b o W→J r b o W.drew)
  (hbox:∀r b o W,J r b o W→Mn W Bs b∧b.size≤100000) (hD:∀r b o W,J r b o W→W.heap[w.heap.size]?=some (.deferred (some [])))
  (xl:∀o W,Jx o W→W.heap[w.heap.size+1]?=some o) (xput:∀o o' W,Jx o W→Jx o' (W.putObj (w.heap.size+1) o'))
  (t:ByteArray) (h0:∀o,J t t o ((w.alloc (.deferred (some []))).alloc o)) (a1:ByteArray→Act)
  (hassign:∀(l:Nat) (x:ByteArray) (W:World) (K:Act→World→Prop),K (a1 x) W→
   assign.wpIn (Fence.wide.inRound l) 2 Tryz.prog (Exit.then K (fun _ _ _=>False)) {tmps:=(ps.zip #[.string x]).foldl (fun t (p,v)=>t.setIfInBounds p v) a.tmps,defers:=[]} W)
  (hbody:∀(i:Nat) (r:ByteArray) (o:Obj) (W:World),Lib.indexByte r.data.toList 10=(i:Int)→J r (r.extract (i+1) r.size) o W→
   body.wpIn (Fence.wide.inRound (w.heap.size+1)) 2 Tryz.prog (Lq (J (r.extract (i+1) r.size) (r.extract (i+1) r.size) o) (Jx o)) (a1 (r.extract 0 (i+1))) W)
  (hlast:∀(r:ByteArray) (o:Obj) (W:World),0<r.size→Lib.indexByte r.data.toList 10<0→J r (⟨#[]⟩:ByteArray) o W→
   body.wpIn (Fence.wide.inRound (w.heap.size+1)) 2 Tryz.prog (Lq (fun _=>False) (Jx o)) (a1 r) W)
  (hdone:∀(r:ByteArray) (o:Obj) (W:World),r.size=0→J r r o W→Q .normal {a with defers:={target:=.collected w.heap.size,args:= #[]}::a.defers} W)
  (hstop:∀(o:Obj) (W:World),Jx o W→Code.ret.wpIn Fence.wide 4 Tryz.prog Q {a with defers:={target:=.collected w.heap.size,args:= #[]}::a.defers} W):
  (Code.rangeFunc g ps assign body).wpIn Fence.wide 4 Tryz.prog Q a w:=by
 refine wpIn_rangeFunc ?_
 intro fn hfn
 rw[show Fence.wide.round=none from rfl]
 obtain⟨rec,hrec⟩:∃rec:LoopState→Option Code→Loop,rec=fun st pe=>{state:=st,pending:=pe,fn,tmps:=a.tmps,params:=ps,assign,body,defers:=w.heap.size}:=⟨_,rfl⟩
 obtain⟨W1,hW1⟩:∃W1,(w.alloc (.deferred (some []))).alloc (.loop (rec .ready none))=W1:=⟨_,rfl⟩
 have hJ1:J t t (.loop (rec .ready none)) W1:=by rw[←hW1];exact h0 _
 refine⟨w.heap.size+1,[{target:=.collected w.heap.size,args:= #[]}],W1,{target:=.fn (.func 44) #[.pointer (some ⟨Bs,0,none⟩)],args:= #[.func (.yield (w.heap.size+1)) #[] #[]]},W1,44,
  #[.func (.yield (w.heap.size+1)) #[] #[]]++ #[.pointer (some ⟨Bs,0,none⟩)],W1,?_,?_,?_,?_,fun _=>by decide,?_⟩
 ·rw[←hW1,hrec];exact run_enterLoop_outer _ _ _ _ _
 ·simp only[resolve,hg]
  simp[go_sem]
 ·intro f' _;exact trivial
 ·have eg:∀args w,(callFunc 44 args).run Tryz.prog w= .ok (.enter 44 args) w:=enters_of Tryz.func44 (by kernel_rfl) rfl
  simp[invoke,go_sem,eg]
 ·-- one round
  have round:∀(x:ByteArray) (W:World) (A X:Obj→World→Prop) (R:Ending→World→Prop),W.heap[w.heap.size+1]?=some (.loop (rec .ready none))→
    (∀o W',A o W'→W'.heap[w.heap.size+1]?=some o)→(∀o W',X o W'→W'.heap[w.heap.size+1]?=some o)→
    (∀W',A (.loop (rec .busy none)) W'→R (.returned (.bool true)) (W'.putObj (w.heap.size+1) (.loop (rec .ready none))))→
    (∀W',X (.loop (rec .busy none)) W'→R (.returned (.bool false)) (W'.putObj (w.heap.size+1) (.loop (rec .done (some .ret)))))→
    body.wpIn (Fence.wide.inRound (w.heap.size+1)) 2 Tryz.prog (Lq (A (.loop (rec .busy none))) (X (.loop (rec .busy none)))) (a1 x) (W.putObj (w.heap.size+1) (.loop (rec .busy none)))→
    YieldAt Fence.wide 2 Tryz.prog (w.heap.size+1) #[.string x] W R:=by
   intro x W A X R hlW hA hX hRA hRX hb
   have hy:=run_yield (P:=Tryz.prog) (args:= #[.string x]) hlW (by rw[hrec];simpa using hps.symm)
   rw[hrec]at hy
   refine⟨fn,_,assign,body,hy,roundIn_of_wpIn hfn (hassign _ x W _ ⟨_,run_beginRound hlW (by rw[hrec]),?_⟩)⟩
   have e1:({rec .ready none with state:=.busy}:Loop)=rec .busy none:=by rw[hrec]
   rw[e1]
   refine wpIn_mono hb ?_
   have fin:∀(jump:Option Code) (W3:World),W3.heap[w.heap.size+1]?=some (.loop (rec .busy none))→
     (Instr.endRound (w.heap.size+1) jump).run Tryz.prog W3= .ok (.bool jump.isNone) (W3.putObj (w.heap.size+1) (.loop (rec (if jump.isNone then .ready else .done) jump))):=fun jump W3 hl3=>by
    have:=run_endRound (P:=Tryz.prog) jump hl3
    rw[hrec]at this ⊢
    exact this
   rintro e a3 W3 hp
   cases e with
   |normal=>
    have hp:A _ W3:=hp
    exact⟨_,_,fin none W3 (hA _ _ hp),hRA _ hp⟩
   |ret=>
    have hp:X _ W3:=hp
    exact⟨_,_,fin (some .ret) W3 (hX _ _ hp),hRX _ hp⟩
   |_=>exact hp.elim
  refine(Qs 3 (w.heap.size+1) Bs (by decide) (fun r b W=>J r b (.loop (rec .ready none)) W) (fun W=>Jx (.loop (rec .done (some .ret))) W) (fun r b W h=>hbox _ _ _ _ h) (fun r b b' W hb h=>hset _ _ _ _ _ hb h) (fun r b W h=>hdrw _ _ _ _ h) ?_ ?_ t W1 hJ1).mono ?_
  ·intro i r W hi hJ
   refine round _ W (fun o W'=>J (r.extract (i+1) r.size) (r.extract (i+1) r.size) o W') (fun o W'=>Jx o W') _ (hl _ _ _ _ hJ) (fun o W' h=>hl _ _ _ _ h) (fun o W' h=>xl _ _ h) (fun W' h=>.inl ⟨rfl,hput _ _ _ _ _ h⟩) (fun W' h=>.inr ⟨rfl,xput _ _ _ h⟩) (hbody i r _ _ hi (hput _ _ _ _ _ hJ))
  ·intro r W hs hi hJ
   refine round _ W (fun o W'=>False) (fun o W'=>Jx o W') _ (hl _ _ _ _ hJ) (fun o W' h=>h.elim) (fun o W' h=>xl _ _ h) (fun W' h=>h.elim) (fun W' h=>⟨rfl,xput _ _ _ h⟩) (hlast r _ _ hs hi (hput _ _ _ _ _ hJ))
  ·rintro e W2 ⟨⟨v,rfl⟩,(⟨r,hs,hJ⟩|hx)⟩
   ·exact⟨none,_,by have:=run_endLoop (P:=Tryz.prog) (hl _ _ _ _ hJ) (by rw[hrec];simp);rw[hrec]at this;exact this,hdone r _ _ hs (hput _ _ _ _ _ hJ)⟩
   ·exact⟨some .ret,_,by have:=run_endLoop (P:=Tryz.prog) (xl _ _ hx) (by rw[hrec];simp);rw[hrec]at this;exact this,hstop _ _ (xput _ _ _ hx)⟩
end Go.Proofs.YtacomabmhnodlaaGreatDoor
namespace Go.Eng
theorem Holds.upd {G:GS} {w w':World} {H H':List aA} {b:Nat} {o o':Obj} (h:Holds G w (H++[(b,o)]::H')) (hos:w'.os=w.os) (ht:w'.tape=w.tape) (hou:w'.output=w.output)
  (hel:∀k,k<w.heap.size→k≠b→w'.heap[k]?=w.heap[k]?) (hb:w'.heap[b]?=some o'):Holds G w' (H++[(b,o')]::H'):=by
 have p1:([(b,o)]::(H++H')).flatten.Perm (H++[(b,o)]::H').flatten:=(List.perm_middle.symm).flatten
 have p2:(H++[(b,o')]::H').flatten.Perm ([(b,o')]::(H++H')).flatten:=(List.perm_middle).flatten
 refine Holds.perm ?_ p2
 refine(h.perm p1).turn (c':=[(b,o')]) hos ht hou rfl (fun k hk hn=>hel k hk (by simpa using hn)) (fun p hp=> ?_)
 rw[List.mem_singleton.1 hp];exact hb
end Go.Eng
namespace Go.Proofs.YtacomabmhnodlaaGreatDoor
open Go Go.RowKit Go.Shelf Go.Sy Go.Proofs.Tryz
open Go.Eng hiding ai
theorem Sim.frame {E:Env} {ρ:Go.Sy.Ren} {G G':GS} {F F':List aA} {M:T} {nx:Nat} {w w':World} (h:Sim E ρ G F M nx w) (hG:G'.M=G.M) (hk:∀c,Holds {G with M:=E.M} w (c::F)→Holds {G' with M:=E.M} w' (c::F')):Sim E ρ G' F' M nx w':=by
 obtain⟨c,hh,h1,h2⟩:=h.ex
 exact⟨⟨c,hk c hh,h1,h2⟩,by rw[hG];exact h.mem,h.fresh⟩
theorem Hr {w:World} {b o:Nat} {c:Array Value} {T:TypeId} {fz:Nat×Nat} (v:Value) (h:w.heap[b]?=some (.cells c T fz)):(w.setCell ⟨b,o,none⟩ v).heap[b]?=some (.cells (c.setIfInBounds o v) T fz):=by
 simp[World.setCell,Array.getElem?_modify,h]
theorem En {w:World} {b o k:Nat} (v:Value) (h:k≠b):(w.setCell ⟨b,o,none⟩ v).heap[k]?=w.heap[k]?:=Below.heap_setCell _ _ _ _ h
theorem FO {E:Env} {ρ:Go.Sy.Ren} {G:GS} {F:List aA} {rd:ah} {w:World} {B cp:Nat} (h:Sim E ρ G F (aO rd) 3 w) (hρ:ρ 0=some ⟨B,cp⟩) (z:Int):Sim E ρ G F (aO {rd with line:=z}) 3 (w.setCell ⟨B,13,none⟩ (.int .i64 z)):=by
 obtain⟨e,arr,xs,h1,h2,h3,h4,_,h6,h7,h8,_⟩:=h.cellsAt (i:=0) (els:=[[.sy (.imm rd.hl 1 (List UInt8) rd.l aG),.sy (.bool rd.odd),.sy (.prow 1 rd.gs.length),.sy (.int 0 rd.clients),.sy (.int 0 rd.window),.sy (.int 0 rd.deadline),.sy (.int 0 rd.pace),.sy (.int 0 rd.again),.sy (.int 0 rd.bag),.sy (.int 4 rd.first),.sy (.prow 2 rd.os.length),.sy (.int 0 rd.set),.sy (.bool rd.op),.sy (.int 0 rd.line)]]) rfl
 rw[hρ]at h1
 cases h1
 have hlen:=ch h3
 have hd:=dJ (lY 13 h3) (bu (E:=E) (ρ:=ρ) (v:=.sy (.int 0 z)) (r:=[]) (x:=.int .i64 z) (xs:=[]) rfl rfl)
 refine h.turn (i:=0) (e:=⟨B,cp⟩) rfl hρ rfl rfl rfl (fun k _ hk=>En _ hk) (Hr _ h2) ?_ rfl (fun m hm=> ?_)
 ·refine⟨by simp,by decide,_,xs.take 13++[.int .i64 z],rfl,(by simpa only[aaH,List.flatten_nil,List.append_nil,List.take_succ_cons,List.take_zero,List.cons_append,List.nil_append] using hd),?_⟩
  simp only[cond_false]
  rw[Array.toList_setIfInBounds,h8 rfl]
  have hl:xs.length=14:=hlen
  apply List.ext_getElem
  ·simp[hl]
  ·intro i a b
   simp[hl]at a b
   by_cases q:i=13
   ·subst q;simp[hl]
   ·have:i<13:=by omega
    simp[List.getElem_set,Ne.symm q,List.getElem_append,hl,this]
 ·match m with
  |0=>exact absurd rfl hm
  |n+1=>rfl
def zV:Array Value:= #[.slice none 0 0,.int .i64 0,.int .i64 0,.int .i64 0,.int .i64 0,.int .i64 0,.int .i64 0,.int .u64 0,.slice none 0 0]
def rV:Array Value:= #[.slice none 0 0,.bool false,.slice none 0 0,.int .i64 0,.int .i64 0,.int .i64 0,.int .i64 0,.int .i64 0,.int .i64 0,.int .u64 0,.slice none 0 0,.int .i64 0,.bool false,.int .i64 0]
def nc (z:Nat) (b:ByteArray) (o:Obj) (n:Int) (F:List aA):List aA:=[(z+6,o)]::[(z+5,.deferred (some []))]::[(z+4,.cells #[.string b] 9)]::[(z+3,.cells #[.pointer (some ⟨z+2,0,none⟩)] 55)]::[(z+1,.cells #[.int .i64 n] 3)]::[(z,.cells zV 29)]::F
def oW:ah:=⟨.slice none 0 0,[],false=true,[],0,0,0,0,0,0,0,[],0,false=true,0⟩
def Cw (z:Nat):Go.Sy.Ren:=fun i=>if i=0 then some ⟨z+2,0⟩ else if i=1∨i=2 then some ⟨0,0⟩ else none
theorem Ke (a b c:Option AObj) (n:Nat):(T.node (.node .leaf a .leaf) b (.node .leaf c .leaf)).get (n+3)=none:=by
 have hl:∀(x:Option AObj) (k:Nat),(T.node .leaf x .leaf).get (k+1)=none:=fun x k=>by
  rcases Nat.mod_two_eq_zero_or_one k with h|h
  ·rw[T.get_even _ _ _ _ h];rfl
  ·rw[T.get_odd _ _ _ _ h];rfl
 rcases Nat.mod_two_eq_zero_or_one (n+2) with h|h
 ·rw[show n+3=(n+2)+1 by omega,T.get_even _ _ _ _ h,show(n+2) / 2=n / 2+1 by omega];exact hl _ _
 ·rw[show n+3=(n+2)+1 by omega,T.get_odd _ _ _ _ h,show(n+2) / 2=n / 2+1 by omega];exact hl _ _
theorem WG:aC (false=true)=false:=by simp[aC]
theorem SW {M:kN}:OkP M (.imm (.slice none 0 0) 1 (List UInt8) [] aG):=.imm none 0 rfl (Nat.le_refl _) (by decide) Nat.one_pos (fun h=>absurd h (by decide)) (fun x hx=>by cases hx) (fun x hx=>by cases hx) (fun i x hx=>by simp at hx)
theorem Nf {E:Env} {G:GS} {F:List aA} {w:World} (hm:MLe G.M E.M) (hh:Holds {G with M:=E.M} w F) (t:ByteArray) (o:Obj):
  Sim E (Cw w.heap.size) G (nc w.heap.size t o 0 F) (aO oW) 3 (((((((w.alloc (.cells zV 29)).alloc (.cells #[.int .i64 0] 3)).alloc (.cells rV 60)).alloc (.cells #[.pointer (some ⟨w.heap.size+2,0,none⟩)] 55)).alloc (.cells #[.string t] 9)).alloc (.deferred (some []))).alloc o):=by
 have h7:=((((((hh.alloc (.cells zV 29)).alloc (.cells #[.int .i64 0] 3)).alloc (.cells rV 60)).alloc (.cells #[.pointer (some ⟨w.heap.size+2,0,none⟩)] 55)).alloc (.cells #[.string t] 9)).alloc (.deferred (some []))).alloc o
 simp only[World.size_alloc]at h7
 have h8:=h7.front 4 (c:=[(w.heap.size+1+1,.cells rV 60)]) rfl
 refine⟨⟨_,h8,fun i o' hi=> ?_,fun i j e f o1 o2 h1 h2 h3 h4 h5 h6 _=> ?_⟩,hm,fun i hi=> ?_⟩
 ·match i,hi with
  |0,hi=>
   have hi:some _=some o':=hi
   cases hi
   refine⟨⟨w.heap.size+2,0⟩,rfl,.inl ⟨rfl,_,List.mem_singleton_self _,?_⟩⟩
   refine⟨by simp,by decide,_,rV.toList,rfl,?_,rfl⟩
   have hi:den E (Cw w.heap.size) (.sy (.imm (.slice none 0 0) 1 (List UInt8) [] aG))=some (.slice none 0 0):=by
    show gp E _=_
    rw[lX SW];rfl
   have hb:den E (Cw w.heap.size) (.sy (.bool (false=true)))=some (.bool false):=by
    show some (Value.bool (aC (false=true)))=_
    rw[WG]
   simp only[oW,aaH,List.flatten_nil,List.append_nil]
   refine bu hi (bu hb (bu rfl (bu rfl (bu rfl (bu rfl (bu rfl (bu rfl (bu rfl (bu rfl (bu rfl (bu rfl (bu hb (bu rfl rfl)))))))))))))
  |1,hi=>
   have hi:some _=some o':=hi
   cases hi
   exact⟨⟨0,0⟩,rfl,.inr ⟨rfl,rfl,by decide⟩⟩
  |2,hi=>
   have hi:some _=some o':=hi
   cases hi
   exact⟨⟨0,0⟩,rfl,.inr ⟨rfl,rfl,by decide⟩⟩
  |n+3,hi=>rw[show(aO oW).get (n+3)=none from Ke _ _ _ n]at hi;cases hi
 ·have key:∀(i:Nat) (e:dw) (o:AObj),(aO oW).get i=some o→Cw w.heap.size i=some e→bW e o=true→i=0:=fun i e o h1 h2 h3=>by
   match i,h1,h2 with
   |0,_,_=>rfl
   |1,h1,h2=>
    have h1:some _=some o:=h1
    have h2:some (⟨0,0⟩:dw)=some e:=h2
    cases h1;cases h2;cases h3
   |2,h1,h2=>
    have h1:some _=some o:=h1
    have h2:some (⟨0,0⟩:dw)=some e:=h2
    cases h1;cases h2;cases h3
   |n+3,h1,_=>rw[show(aO oW).get (n+3)=none from Ke _ _ _ n]at h1;cases h1
  rw[key i e o1 h1 h3 h5,key j f o2 h2 h4 h6]
 ·unfold Cw
  rw[if_neg (by omega),if_neg (by omega)]
def WF (t r:ByteArray) (rd:ah):Prop:=mA rd∧(rd.os.length+r.size≤70000∧r.size≤70000)∧(0≤rd.line∧rd.line+r.size≤70000)∧∀o m,eI (dt rd) (rd.line+1) r.data.toList o m→eI rh 1 t.data.toList o m
def JJ (E0:Env) (G:GS) (F:List aA) (z:Nat) (t r b:ByteArray) (o:Obj) (W:World):Prop:=
 ∃E ρ rd cp,dG E∧MLe E0.M E.M∧Sim E ρ G (nc z b o 0 F) (aO rd) 3 W∧ρ 0=some ⟨z+2,cp⟩∧WF t r rd∧b.size≤100000
def JX (E0:Env) (G:GS) (F:List aA) (z:Nat) (t:ByteArray) (o:Obj) (W:World):Prop:=
 ∃E m b,dG E∧MLe E0.M E.M∧Holds {G with M:=E.M} W (nc z b o m F)∧eI rh 1 t.data.toList gn m
section
variable {E0:Env} {G:GS} {F:List aA} {z:Nat} {t:ByteArray}
theorem ni {E:Env} {ρ:Go.Sy.Ren} {M:T} {nx:Nat} {W:World} {F':List aA} (h:Sim E ρ G F' M nx W) {p:Nat×Obj} (hp:p∈F'.flatten):W.heap[p.1]?=some p.2:=by
 obtain⟨c,hh,_,_⟩:=h.ex
 exact hh.own p (by simp only[aaH,List.mem_append];exact .inr hp)
theorem j_l (r b:ByteArray) (o:Obj) (W:World) (h:JJ E0 G F z t r b o W):W.heap[z+6]?=some o:=by
 obtain⟨E,ρ,rd,cp,_,_,hs,_⟩:=h
 exact ni hs (p:=(z+6,o)) (by simp[nc])
theorem ZB (r b:ByteArray) (o:Obj) (W:World) (h:JJ E0 G F z t r b o W):W.heap[z+5]?=some (.deferred (some [])):=by
 obtain⟨E,ρ,rd,cp,_,_,hs,_⟩:=h
 exact ni hs (p:=(z+5,.deferred (some []))) (by simp[nc])
theorem sT {w:World} {b:Nat} {o o':Obj} {G':GS} {H H':List aA} (h:Holds G' w (H++[(b,o)]::H')):Holds G' (w.putObj b o') (H++[(b,o')]::H'):=by
 have hb:w.heap[b]?=some o:=h.own (b,o) (by simp)
 exact h.upd rfl rfl rfl (fun k _ hk=>World.putObj_heap_other hk) (World.putObj_heap_same (bo hb))
theorem pC {w:World} {b of:Nat} {c:Array Value} {T:TypeId} {v:Value} {G':GS} {H H':List aA} (h:Holds G' w (H++[(b,.cells c T)]::H')):Holds G' (w.setCell ⟨b,of,none⟩ v) (H++[(b,.cells (c.setIfInBounds of v) T)]::H'):=by
 have hb:w.heap[b]?=some (.cells c T):=h.own (b,.cells c T) (by simp)
 exact h.upd rfl rfl rfl (fun k _ hk=>En _ hk) (Hr _ hb)
theorem Zi (r b:ByteArray) (o o':Obj) (W:World) (h:JJ E0 G F z t r b o W):JJ E0 G F z t r b o' (W.putObj (z+6) o'):=by
 obtain⟨E,ρ,rd,cp,h1,h2,hs,h3⟩:=h
 exact⟨E,ρ,rd,cp,h1,h2,Sim.frame hs rfl fun c hh=>sT (H:=[c]) hh,h3⟩
theorem Zh (r b b':ByteArray) (o:Obj) (W:World) (hb:b'.size≤100000) (h:JJ E0 G F z t r b o W):JJ E0 G F z t r b' o (W.setCell ⟨z+4,0,none⟩ (.string b')):=by
 obtain⟨E,ρ,rd,cp,h1,h2,hs,h3,h4,h5⟩:=h
 exact⟨E,ρ,rd,cp,h1,h2,Sim.frame hs rfl fun c hh=>pC (H:=[c,[(z+6,o)],[(z+5,.deferred (some []))]]) hh,h3,h4,hb⟩
theorem Zj (r b:ByteArray) (o:Obj) (W:World) (h:JJ E0 G F z t r b o W):JJ E0 G F z t r b o W.drew:=by
 obtain⟨E,ρ,rd,cp,h1,h2,hs,h3⟩:=h
 exact⟨E,ρ,rd,cp,h1,h2,Sim.frame hs rfl fun c hh=>hh.drew,h3⟩
theorem Zk (r b:ByteArray) (o:Obj) (W:World) (h:JJ E0 G F z t r b o W):Mn W (z+4) b∧b.size≤100000:=by
 obtain⟨E,ρ,rd,cp,_,_,hs,_,_,h5⟩:=h
 have hb:=ni hs (p:=(z+4,.cells #[.string b] 9)) (by simp[nc])
 exact⟨⟨by simp[World.cell?,hb],by simp[World.frozen?,hb]⟩,h5⟩
theorem x_l (o:Obj) (W:World) (h:JX E0 G F z t o W):W.heap[z+6]?=some o:=by
 obtain⟨E,m,b,_,_,hh,_⟩:=h
 exact hh.own (z+6,o) (by simp[nc])
theorem x_D (o:Obj) (W:World) (h:JX E0 G F z t o W):W.heap[z+5]?=some (.deferred (some [])):=by
 obtain⟨E,m,b,_,_,hh,_⟩:=h
 exact hh.own (z+5,.deferred (some [])) (by simp[nc])
theorem YN (o o':Obj) (W:World) (h:JX E0 G F z t o W):JX E0 G F z t o' (W.putObj (z+6) o'):=by
 obtain⟨E,m,b,h1,h2,hh,h3⟩:=h
 exact⟨E,m,b,h1,h2,sT (H:=[]) hh,h3⟩
end
theorem Nz {E:Env} {ρ:Go.Sy.Ren} {G:GS} {F:List aA} {rd:ah} {W:World} {B cp:Nat} {u:List UInt8} (hE:dG E) (hs:Sim E ρ G F (aO rd) 3 W) (hρ:ρ 0=some ⟨B,cp⟩) (h1:u.length≤90000) (h2:mA rd) (h3:rd.os.length≤99999):
  Calls Tryz.prog 18 #[.pointer (some ⟨B,0,none⟩),.string ⟨u.toArray⟩] W fun e W'=>∃b,e= .returned (.bool b)∧∃E' ρ' t,dG E'∧MLe E.M E'.M∧Sim E' ρ' G F (aO t) 3 W'∧ρ' 0=some ⟨B,cp⟩∧CJ rd t u (b=true):=by
 refine NL [.ptr 0 0,.sy (.str u)] [.pointer (some ⟨B,0,none⟩),.string ⟨u.toArray⟩] E ρ G F (aO rd) 3 W (fun v M nx=>aC (∃t q,v= .sy (.bool q)∧M=aO t∧nx=3∧CJ rd t u q)) _ hE hs ?_ ?_ ?_
 ·exact bu (by simp[den,hρ]) (bu rfl rfl)
 ·exact bj (⟨rd,u⟩:vj) (bl rfl (bl ⟨h1,h2,h3⟩ (am fun r=>RH (fun hp=>prB_true.2 ⟨_,_,rfl,rfl,rfl,hp⟩) fun _=>rfl)))
 ·intro v M' nx' E' ρ' w' z hk h4 h5 h6 h7 h8
  obtain⟨t,q,rfl,rfl,rfl,hp⟩:=prB_true.1 hk
  have h8:some (Value.bool (aC q))=some z:=h8
  cases h8
  refine⟨_,rfl,E',ρ',t,h4,h5,h7,h6 0 _ (by decide) hρ,?_⟩
  have e:(aC q=true)=q:=by simp[aC]
  rw[e];exact hp
theorem Tx {r:ByteArray} {i:Nat} (h:Lib.indexByte r.data.toList 10=(i:Int)):∃u v,r.data.toList=u++10::v∧(10:UInt8)∉u∧(r.extract (i+1) r.size).data.toList=v∧(r.extract (i+1) r.size).size=v.length∧
  Lib.hasSuffix (r.extract 0 (i+1)).data.toList [10]=true∧(⟨(Lib.trimSuffix (r.extract 0 (i+1)).data.toList [10]).toArray⟩:ByteArray)=⟨u.toArray⟩∧r.size=u.length+v.length+1:=by
 obtain⟨h1,h2⟩:=Lib.indexByte_some h
 have hi:=(List.getElem?_eq_some_iff.1 h1).1
 have hd:r.data.toList.drop i=10::r.data.toList.drop (i+1):=by rw[List.drop_eq_getElem_cons hi,(List.getElem?_eq_some_iff.1 h1).2]
 have e0:r.data.toList=r.data.toList.take i++10::r.data.toList.drop (i+1):=by rw[←hd,List.take_append_drop]
 have e1:(r.extract 0 (i+1)).data.toList=r.data.toList.take i++[10]:=by
  rw[Lib.extract_data,List.drop_zero,Nat.sub_zero,List.take_add_one,h1];rfl
 have hs:Lib.hasSuffix (r.data.toList.take i++[10]) [10]=true:=by
  rw[Lib.hasSuffix,List.isSuffixOf_iff_suffix]
  exact⟨_,rfl⟩
 refine⟨r.data.toList.take i,r.data.toList.drop (i+1),e0,fun hm=> ?_,Lib.extract_to_end _ _,?_,by rw[e1];exact hs,?_,?_⟩
 ·obtain⟨k,hk⟩:=List.mem_iff_getElem?.1 hm
  have hlt:k<i:=by
   have:=(List.getElem?_eq_some_iff.1 hk).1
   simp at this;omega
  rw[List.getElem?_take_of_lt hlt]at hk
  exact h2 k hlt hk
 ·rw[Lib.size_eq,Lib.extract_to_end]
 ·rw[e1,Lib.trimSuffix,if_pos hs]
  simp
 ·have:=congrArg List.length e0
  rw[List.length_append,List.length_cons]at this
  rw[Lib.size_eq];omega
theorem Tw {r:ByteArray} (h:Lib.indexByte r.data.toList 10<0):(10:UInt8)∉r.data.toList∧Lib.hasSuffix r.data.toList [10]=false:=by
 have h0:(10:UInt8)∉r.data.toList:=fun hm=>by
  obtain⟨k,hk⟩:=List.mem_iff_getElem?.1 hm
  have hlt:=(List.getElem?_eq_some_iff.1 hk).1
  rcases Lib.index_spec r.data.toList [10] with⟨h1,_⟩|⟨i,h1,_⟩
  ·rw[Lib.index_one]at h1
   exact Lib.indexByte_none h1 k hk
  ·rw[Lib.index_one]at h1
   omega
 refine⟨h0,?_⟩
 cases hs:Lib.hasSuffix r.data.toList [10] with
 |false=>rfl
 |true=>
  rw[Lib.hasSuffix,List.isSuffixOf_iff_suffix]at hs
  obtain⟨p,hp⟩:=hs
  exact absurd (by rw[←hp];simp) h0
theorem rH {G:GS} {W:World} {z:Nat} {b:ByteArray} {o:Obj} {n:Int} {F:List aA} (hh:Holds G W (nc z b o n F)):
  W.cell? ⟨z+1+1+1,0,none⟩=some (.pointer (some ⟨z+1+1,0,none⟩))∧(∀k v,zV[k]?=some v→W.cell? ⟨z,k,none⟩=some v)∧(∀k,W.frozen? ⟨z,k,none⟩=false)∧W.cell? ⟨z+1,0,none⟩=some (.int .i64 n)∧W.frozen? ⟨z+1,0,none⟩=false:=by
 have h3:=hh.own (z+3,.cells #[.pointer (some ⟨z+2,0,none⟩)] 55) (by simp[nc])
 have h0:=hh.own (z,.cells zV 29) (by simp[nc])
 have h1:=hh.own (z+1,.cells #[.int .i64 n] 3) (by simp[nc])
 refine⟨by simp[World.cell?,h3],fun k v hk=>by simp[World.cell?,h0,hk],fun k=>by simp[World.frozen?,h0],by simp[World.cell?,h1],by simp[World.frozen?,h1]⟩
theorem bB {G:GS} {W:World} {z k:Nat} {b:ByteArray} {o:Obj} {n:Int} {F:List aA} {v:Value} (hh:Holds G W (nc z b o n F)) (hv:zV[k]?=some v):Holds G (W.setCell ⟨z,k,none⟩ v) (nc z b o n F):=by
 have h:=pC (of:=k) (v:=v) (H:=[[(z+6,o)],[(z+5,.deferred (some []))],[(z+4,.cells #[.string b] 9)],[(z+3,.cells #[.pointer (some ⟨z+2,0,none⟩)] 55)],[(z+1,.cells #[.int .i64 n] 3)]]) hh
 have e:zV.setIfInBounds k v=zV:=by
  apply Array.ext_getElem?
  intro i
  rw[Array.getElem?_setIfInBounds]
  by_cases q:k=i
  ·subst q
   rw[if_pos rfl,hv]
   have:=(Array.getElem?_eq_some_iff.1 hv).1
   rw[if_pos this]
  ·rw[if_neg q]
 rw[e]at h
 exact h
theorem xY {G:GS} {W:World} {z:Nat} {b:ByteArray} {o:Obj} {n m:Int} {F:List aA} (hh:Holds G W (nc z b o n F)):Holds G (W.setCell ⟨z+1,0,none⟩ (.int .i64 m)) (nc z b o m F):=
 pC (of:=0) (v:=.int .i64 m) (H:=[[(z+6,o)],[(z+5,.deferred (some []))],[(z+4,.cells #[.string b] 9)],[(z+3,.cells #[.pointer (some ⟨z+2,0,none⟩)] 55)]]) hh
theorem iy {E:Env} {ρ:Go.Sy.Ren} {G:GS} {F:List aA} {M:T} {nx:Nat} {W:World} (h:Sim E ρ G F M nx W):Holds {G with M:=E.M} W F:=by
 obtain⟨c,hh,_,_⟩:=h.ex
 exact hh.drop
end Go.Proofs.YtacomabmhnodlaaGreatDoor
namespace Go.Proofs.YtacomabmhnodlaaGreatDoor
open Go Go.RowKit Go.Shelf Go.Sy Go.Proofs.Tryz
open Go.Eng hiding ai
attribute [local go_sem] Oper.semAt_some
def Gi (rd:ah):zc:=(rd.gs,⟨rd.clients,rd.window,rd.deadline,rd.pace,rd.again,rd.bag,rd.first⟩,rd.os.map cx)
noncomputable def tq (rd:ah):List AV:=[.sy (.prow 1 rd.gs.length),.sy (.int 0 rd.clients),.sy (.int 0 rd.window),.sy (.int 0 rd.deadline),.sy (.int 0 rd.pace),.sy (.int 0 rd.again),.sy (.int 0 rd.bag),.sy (.int 4 rd.first),.sy (.prow 2 rd.os.length)]
theorem PH {t:ByteArray} (h:t.size≤70000):WF t t oW:=
 ⟨⟨by simp[oW],⟨fun q=>(by cases q),fun q=>by simp[oW]at q⟩,by simp[oW],by simp[oW]⟩,⟨by simp[oW];omega,h⟩,⟨by simp[oW],by simp[oW];omega⟩,fun o m h=>h⟩
theorem sS {E:Env} {ρ:Go.Sy.Ren} {G:GS} {F:List aA} {rd:ah} {W:World} {z cp:Nat} (hs:Sim E ρ G F (aO rd) 3 W) (hρ:ρ 0=some ⟨z+2,cp⟩):W.cell? ⟨z+1+1,13,none⟩=some (.int .i64 rd.line)∧W.frozen? ⟨z+1+1,13,none⟩=false:=by
 obtain⟨e,x,h1,h2,h3⟩:=hs.cell (i:=0) (q:=0) (r:=13) rfl rfl rfl
 obtain⟨e',arr,xs,h4,h5,_⟩:=hs.cellsAt (i:=0) rfl
 rw[hρ]at h1 h4
 cases h1;cases h4
 have h2:some (Value.int .i64 rd.line)=some x:=h2
 cases h2
 exact⟨by simpa using h3,by simp[World.frozen?,h5]⟩
theorem nX {E:Env} {ρ:Go.Sy.Ren} {G:GS} {F:List aA} {rd:ah} {W:World} {z cp:Nat} (hs:Sim E ρ G F (aO rd) 3 W) (hρ:ρ 0=some ⟨z+2,cp⟩) (j:Nat) {v:AV} {el:List AV} (hel:(aO rd).get 0=some (.blk false 60 14 [el])) (hv:el[j]?=some v):∃x,den E ρ v=some x∧W.cell? ⟨z+1+1,j,none⟩=some x:=by
 obtain⟨e,x,h1,h2,h3⟩:=hs.cell (i:=0) (q:=0) (r:=j) hel rfl hv
 rw[hρ]at h1
 cases h1
 exact⟨x,h2,by simpa using h3⟩
theorem DM {E:Env} {ρ:Go.Sy.Ren} {i n:Nat} {x:Value} (h:den E ρ (.sy (.prow i n))=some x):∃ao c,x= .slice ao n c:=by
 have h:(match ρ i with|some e=>kQ e n|none=>none)=some x:=h
 split at h
 ·rcases dM h with⟨_,rfl,rfl⟩|⟨c,_,rfl⟩
  ·exact⟨none,0,rfl⟩
  ·exact⟨_,c,rfl⟩
 ·cases h
theorem PC {E:Env} {ρ:Go.Sy.Ren} {G:GS} {F:List aA} {rd:ah} {W:World} {z cp:Nat} (hs:Sim E ρ G F (aO rd) 3 W) (hρ:ρ 0=some ⟨z+2,cp⟩):
  ∃xo xc yo yc,den E ρ (.agg (tq rd))=some (.agg #[.slice xo rd.gs.length xc,.int .i64 rd.clients,.int .i64 rd.window,.int .i64 rd.deadline,.int .i64 rd.pace,.int .i64 rd.again,.int .i64 rd.bag,.int .u64 rd.first,.slice yo rd.os.length yc])∧
   W.cell? ⟨z+1+1,2,none⟩=some (.slice xo rd.gs.length xc)∧W.cell? ⟨z+1+1,3,none⟩=some (.int .i64 rd.clients)∧W.cell? ⟨z+1+1,4,none⟩=some (.int .i64 rd.window)∧W.cell? ⟨z+1+1,5,none⟩=some (.int .i64 rd.deadline)∧W.cell? ⟨z+1+1,6,none⟩=some (.int .i64 rd.pace)∧
   W.cell? ⟨z+1+1,7,none⟩=some (.int .i64 rd.again)∧W.cell? ⟨z+1+1,8,none⟩=some (.int .i64 rd.bag)∧W.cell? ⟨z+1+1,9,none⟩=some (.int .u64 rd.first)∧W.cell? ⟨z+1+1,10,none⟩=some (.slice yo rd.os.length yc)∧W.cell? ⟨z+1+1,12,none⟩=some (.bool (aC rd.op)):=by
 obtain⟨x,a2,b2⟩:=nX hs hρ 2 rfl rfl
 obtain⟨x3,a3,b3⟩:=nX hs hρ 3 rfl rfl
 obtain⟨x4,a4,b4⟩:=nX hs hρ 4 rfl rfl
 obtain⟨x5,a5,b5⟩:=nX hs hρ 5 rfl rfl
 obtain⟨x6,a6,b6⟩:=nX hs hρ 6 rfl rfl
 obtain⟨x7,a7,b7⟩:=nX hs hρ 7 rfl rfl
 obtain⟨x8,a8,b8⟩:=nX hs hρ 8 rfl rfl
 obtain⟨x9,a9,b9⟩:=nX hs hρ 9 rfl rfl
 obtain⟨y,a10,b10⟩:=nX hs hρ 10 rfl rfl
 obtain⟨x12,a12,b12⟩:=nX hs hρ 12 rfl rfl
 have c3:x3= .int .i64 rd.clients:=(aaZ a3).symm
 have c4:x4= .int .i64 rd.window:=(aaZ a4).symm
 have c5:x5= .int .i64 rd.deadline:=(aaZ a5).symm
 have c6:x6= .int .i64 rd.pace:=(aaZ a6).symm
 have c7:x7= .int .i64 rd.again:=(aaZ a7).symm
 have c8:x8= .int .i64 rd.bag:=(aaZ a8).symm
 have c9:x9= .int .u64 rd.first:=(aaZ a9).symm
 have c12:x12= .bool (aC rd.op):=(aaZ a12).symm
 subst c3;subst c4;subst c5;subst c6;subst c7;subst c8;subst c9;subst c12
 obtain⟨xo,xc,rfl⟩:=DM a2
 obtain⟨yo,yc,rfl⟩:=DM a10
 refine⟨xo,xc,yo,yc,?_,b2,b3,b4,b5,b6,b7,b8,b9,b10,b12⟩
 have hl:aD E ρ (tq rd)=some [.slice xo rd.gs.length xc,.int .i64 rd.clients,.int .i64 rd.window,.int .i64 rd.deadline,.int .i64 rd.pace,.int .i64 rd.again,.int .i64 rd.bag,.int .u64 rd.first,.slice yo rd.os.length yc]:=
  bu a2 (bu a3 (bu a4 (bu a5 (bu a6 (bu a7 (bu a8 (bu a9 (bu a10 rfl))))))))
 simp only[den,hl]
theorem jp {G:GS} {W:World} {z k:Nat} {b:ByteArray} {o:Obj} {n:Int} {F:List aA} {v:Value} {c:aA} {x:Array Value} (hh:Holds G W (c::[(z+6,o)]::[(z+5,.deferred (some []))]::[(z+4,.cells #[.string b] 9)]::[(z+3,.cells #[.pointer (some ⟨z+2,0,none⟩)] 55)]::[(z+1,.cells #[.int .i64 n] 3)]::[(z,.cells x 29)]::F)):
  Holds G (W.setCell ⟨z,k,none⟩ v) (c::[(z+6,o)]::[(z+5,.deferred (some []))]::[(z+4,.cells #[.string b] 9)]::[(z+3,.cells #[.pointer (some ⟨z+2,0,none⟩)] 55)]::[(z+1,.cells #[.int .i64 n] 3)]::[(z,.cells (x.setIfInBounds k v) 29)]::F):=
 pC (of:=k) (v:=v) (H:=[c,[(z+6,o)],[(z+5,.deferred (some []))],[(z+4,.cells #[.string b] 9)],[(z+3,.cells #[.pointer (some ⟨z+2,0,none⟩)] 55)],[(z+1,.cells #[.int .i64 n] 3)]]) hh
theorem ZZ:Go.Eng.szOf Tryz.prog 29=some 9:=by kernel_rfl
theorem aay:Go.Eng.isAg Tryz.prog 29=some true:=by kernel_rfl
theorem ag3:Go.Eng.isAg Tryz.prog 3=some false:=by kernel_rfl
theorem Cx {fn:Func} {W:World} {tmps:Array Value} {z:Nat} {c0 c1 c2 c3 c4 c5 c6 c7 c8 v:Value} (hr:fn.results= #[.cell 2 29,.cell 3 3]) (h2:tmps.getD 2 undef= .pointer (some ⟨z,0,none⟩)) (h3:tmps.getD 3 undef= .pointer (some ⟨z+1,0,none⟩))
  (hc:W.heap[z]?=some (.cells #[c0,c1,c2,c3,c4,c5,c6,c7,c8] 29)) (hv:W.heap[z+1]?=some (.cells #[v] 3)):(results fn tmps).run Tryz.prog W= .ok (.tuple #[.agg #[c0,c1,c2,c3,c4,c5,c6,c7,c8],v]) W:=by
 have e1:=Go.Eng.run_loadVarAgg (P:=Tryz.prog) (w:=W) (b:=z) (o:=0) (cs:=[c0,c1,c2,c3,c4,c5,c6,c7,c8]) aay ZZ rfl fun j x hj=>by
  rw[Nat.zero_add];simp[World.cell?,hc];exact hj
 have e2:=Go.Eng.run_loadVarOne (P:=Tryz.prog) (w:=W) (b:=z+1) (o:=0) (v:=v) ag3 (by simp[World.cell?,hv])
 simp only[Array.getD_eq_getD_getElem?]at h2 h3
 simp[results,hr,h2,h3,asAddr,e1,e2]
set_option maxRecDepth 100000 in
set_option maxHeartbeats 4000000 in
theorem WI (t:ByteArray) (ht:t.size≤70000) {E0:Env} {G:GS} {F:List aA} {w:World} (hE:dG E0) (hm:MLe G.M E0.M) (hh:Holds {G with M:=E0.M} w F) (R:Ending→World→Prop)
  (hfail:∀E m w',dG E→MLe E0.M E.M→Holds {G with M:=E.M} w' F→eI rh 1 t.data.toList gn m→R (.returned (.tuple #[.agg zV,.int .i64 m])) w')
  (hok:∀E ρ rd w' z,dG E→MLe E0.M E.M→Sim E ρ G F (aO rd) 3 w'→mA rd→rd.os.length≤70000→eI rh 1 t.data.toList (Gi rd) 0→den E ρ (.agg (tq rd))=some z→R (.returned (.tuple #[z,.int .i64 0])) w'):Calls Tryz.prog 6 #[.string t] w R:=by
 refine(callsIn_wide (n:=4)).1 ?_
 refine callsIn_of_wp_marks Tryz.func6 rfl trivial ?_ rfl
 simp only[Tryz.ntmps6,List.size_toArray,List.length_cons,List.length_nil,Nat.reduceAdd,Nat.reduceSub,Array.replicate_succ,Array.replicate_zero,List.push_toArray,List.append_toArray,List.nil_append,List.cons_append]
 gi_wp2_with (refine⟨trivial,?_⟩;gi_at_call 16;refine(callsIn_wide.2 (Tv _ _)).mono ?_;rintro e w' ⟨rfl,rfl⟩)
 generalize hw5:World.alloc _ (Obj.cells #[Value.string t] 9)=w5
 have hsz:w5.heap.size=w.heap.size+5:=by rw[←hw5];simp only[World.size_alloc]
 have hst:∀o,Sim E0 (Cw w.heap.size) G (nc w.heap.size t o 0 F) (aO oW) 3 ((w5.alloc (.deferred (some []))).alloc o):=fun o=>by rw[←hw5];exact Nf hm hh t o
 refine AM (Bs:=w.heap.size+1+1+1+1) rfl rfl (JJ E0 G F w.heap.size t) (JX E0 G F w.heap.size t) (fun r b o W h=>by rw[hsz];exact j_l r b o W h) (fun r b o o' W h=>by rw[hsz];exact Zi r b o o' W h) (fun r b b' o W hb h=>Zh r b b' o W hb h) (fun r b o W h=>Zj r b o W h) (fun r b o W h=>Zk r b o W h) (fun r b o W h=>by rw[hsz];exact ZB r b o W h)
  (fun o W h=>by rw[hsz];exact x_l o W h) (fun o o' W h=>by rw[hsz];exact YN o o' W h) t (fun o=>⟨E0,_,oW,0,hE,MLe.refl _,hst o,rfl,PH ht,by omega⟩)
  (fun x=>{tmps:= #[Value.string t,undef,Value.pointer (some {block:=w.heap.size,off:=0}),Value.pointer (some {block:=w.heap.size+1,off:=0}),Value.pointer (some {block:=w.heap.size+1+1+1,off:=0}),.string x,undef,undef,
     Value.agg rV,Value.pointer (some {block:=w.heap.size+1+1,off:=0}),Value.string t,
     Value.func (Fn.func 44) #[] #[Value.pointer (some {block:=w.heap.size+1+1+1+1,off:=0})],.string x,
     undef,undef,undef,undef,undef,undef,undef,undef,undef,undef,undef,undef,undef,undef,undef,
     undef,undef,undef,undef,undef,undef,undef,undef,undef,undef,undef,undef,undef,undef,undef,
     undef,undef,undef,undef,undef,undef,undef,undef,undef,undef],defers:=[]}) ?assign ?body ?last ?done ?stop
 case assign=>
  intro l x W K hK
  gi_wp2
  exact hK
 case body=>
  intro i r o W hi hJ
  obtain⟨E,ρ,rd,cp,e1,e2,hs,hρ,hp,hb⟩:=hJ
  obtain⟨u,v,l1,l2,l3,l4,l5,l6,l7⟩:=Tx hi
  obtain⟨hrd,hos,hln,hres⟩:=hp
  have hc4:W.cell? ⟨w.heap.size+1+1+1,0,none⟩=some (.pointer (some ⟨w.heap.size+1+1,0,none⟩)):=by
   have:=ni hs (p:=(w.heap.size+3,.cells #[.pointer (some ⟨w.heap.size+2,0,none⟩)] 55)) (by simp[nc])
   simp[World.cell?,this]
  obtain⟨hline,hfz⟩:=sS hs hρ
  have hi2:r.extract 0 (i+1)=r.extract 0 (i+1):=rfl
  have hxs:(r.extract 0 (i+1)).size≤9223372036854775807:=by rw[ByteArray.size_extract];omega
  have hs1:=FO hs hρ (rd.line+1)
  have hone:=Nz (u:=u) e1 hs1 hρ (by omega) hrd (by simp only;omega)
  gi_wp2_with (first
   |(refine⟨trivial,?_⟩;gi_at_call 17;refine(CallsIn.inRound _ (callsIn_wide.2 (Tryz.strings_CutSuffix _ ⟨#[10]⟩ _ hxs))).mono ?_;rintro e w' ⟨rfl,rfl⟩;rw[l5,l6])
   |(refine⟨trivial,?_⟩;gi_at_call 18;refine(CallsIn.inRound _ (callsIn_wide.2 hone)).mono ?_;rintro e w' ⟨b,rfl,hb⟩))
  ·obtain⟨E',ρ',t',f1,f2,f3,f4,f5⟩:=hb
   obtain⟨k1,k2,k3,k4,k5⟩:=rH (iy f3)
   obtain⟨k6,k7⟩:=sS f3 f4
   have y0:=k2 0 _ rfl
   have y1:=k2 1 _ rfl
   have y2:=k2 2 _ rfl
   have y3:=k2 3 _ rfl
   have y4:=k2 4 _ rfl
   have y5:=k2 5 _ rfl
   have y6:=k2 6 _ rfl
   have y7:=k2 7 _ rfl
   have y8:=k2 8 _ rfl
   have v0:=k3 0
   have v1:=k3 1
   have v2:=k3 2
   have v3:=k3 3
   have v4:=k3 4
   have v5:=k3 5
   have v6:=k3 6
   have v7:=k3 7
   have v8:=k3 8
   have hr:∀(hb:¬b=true),eI rh 1 t.data.toList gn t'.line:=fun hb=>by
    rw[show t'.line=rd.line+1 from f5.1]
    refine hres _ _ ?_
    rw[l1]
    exact .bad _ _ _ _ l2 (f5.2.2 hb)
   gi_region
   all_goals
    gi_wp2
    refine⟨E',t'.line,r.extract (i+1) r.size,f1,MLe.trans e2 f2,?_,hr (fun q=>by rename_i hbn;rw[q]at hbn;cases hbn)⟩
    exact Holds.drew (xY (n:=0) (bB (k:=8) (bB (k:=7) (bB (k:=6) (bB (k:=5) (bB (k:=4) (bB (k:=3) (bB (k:=2) (bB (k:=1) (bB (k:=0) (iy f3) rfl) rfl) rfl) rfl) rfl) rfl) rfl) rfl) rfl))
  ·obtain⟨E',ρ',t',f1,f2,f3,f4,f5⟩:=hb
   have hbt:b=true:=by rename_i hbn;cases b;exact absurd hbn (by decide);rfl
   obtain⟨⟨g1,g2⟩,g3⟩:=f5.2.1 hbt
   have g4:t'.line=rd.line+1:=f5.1
   refine⟨E',ρ',t',cp,f1,MLe.trans e2 f2,f3,f4,⟨g1,⟨by simp only at g2;omega,by omega⟩,⟨by omega,by omega⟩,fun o m h=>hres o m ?_⟩,by omega⟩
   rw[l1]
   rw[l3,g4]at h
   exact .good _ _ _ _ _ _ _ l2 g3 h
 case last=>
  intro r o W hsz0 hi hJ
  obtain⟨E,ρ,rd,cp,e1,e2,hs,hρ,hp,hb⟩:=hJ
  obtain⟨l1,l2⟩:=Tw hi
  obtain⟨hrd,hos,hln,hres⟩:=hp
  have hc4:W.cell? ⟨w.heap.size+1+1+1,0,none⟩=some (.pointer (some ⟨w.heap.size+1+1,0,none⟩)):=(rH (iy hs)).1
  obtain⟨hline,hfz⟩:=sS hs hρ
  have hxs:r.size≤9223372036854775807:=by omega
  have hs1:=FO hs hρ (rd.line+1)
  gi_wp2_with (first
   |(refine⟨trivial,?_⟩;gi_at_call 17;refine(CallsIn.inRound _ (callsIn_wide.2 (Tryz.strings_CutSuffix _ ⟨#[10]⟩ _ hxs))).mono ?_;rintro e w' ⟨rfl,rfl⟩;rw[l2])
   |(refine⟨trivial,?_⟩))
  ·obtain⟨k1,k2,k3,k4,k5⟩:=rH (iy hs1)
   obtain⟨k6,k7⟩:=sS hs1 hρ
   have y0:=k2 0 _ rfl
   have y1:=k2 1 _ rfl
   have y2:=k2 2 _ rfl
   have y3:=k2 3 _ rfl
   have y4:=k2 4 _ rfl
   have y5:=k2 5 _ rfl
   have y6:=k2 6 _ rfl
   have y7:=k2 7 _ rfl
   have y8:=k2 8 _ rfl
   have v0:=k3 0
   have v1:=k3 1
   have v2:=k3 2
   have v3:=k3 3
   have v4:=k3 4
   have v5:=k3 5
   have v6:=k3 6
   have v7:=k3 7
   have v8:=k3 8
   have hr:eI rh 1 t.data.toList gn (rd.line+1):=hres _ _ (.open_ _ _ _ (fun q=>by rw[Lib.size_eq,q]at hsz0;exact absurd hsz0 (by decide)) l1)
   gi_region
   all_goals
    gi_wp2
    refine⟨E,rd.line+1,⟨#[]⟩,e1,e2,?_,hr⟩
    exact Holds.drew (xY (n:=0) (bB (k:=8) (bB (k:=7) (bB (k:=6) (bB (k:=5) (bB (k:=4) (bB (k:=3) (bB (k:=2) (bB (k:=1) (bB (k:=0) (iy hs1) rfl) rfl) rfl) rfl) rfl) rfl) rfl) rfl) rfl))
 case done=>
  intro r o W hs0 hJ
  obtain⟨E,ρ,rd,cp,e1,e2,hs,hρ,hp,hb⟩:=hJ
  obtain⟨hrd,hos,hln,hres⟩:=hp
  have hD:=ZB _ _ _ _ (E0:=E0) (G:=G) (F:=F) (t:=t) ⟨E,ρ,rd,cp,e1,e2,hs,hρ,⟨hrd,hos,hln,hres⟩,hb⟩
  obtain⟨hc4,k2,k3,k4,k5⟩:=rH (iy hs)
  obtain⟨hline,hfz⟩:=sS hs hρ
  obtain⟨xo,xc,yo,yc,hden,q2,q3,q4,q5,q6,q7,q8,q9,q10,q12⟩:=PC hs hρ
  have y0:=k2 0 _ rfl
  have y1:=k2 1 _ rfl
  have y2:=k2 2 _ rfl
  have y3:=k2 3 _ rfl
  have y4:=k2 4 _ rfl
  have y5:=k2 5 _ rfl
  have y6:=k2 6 _ rfl
  have y7:=k2 7 _ rfl
  have y8:=k2 8 _ rfl
  have v0:=k3 0
  have v1:=k3 1
  have v2:=k3 2
  have v3:=k3 3
  have v4:=k3 4
  have v5:=k3 5
  have v6:=k3 6
  have v7:=k3 7
  have v8:=k3 8
  by_cases hop:rd.op
  ·rw[prB_true.2 hop]at q12
   gi_wp2
   have g:=Sim.frame (G':=G) hs rfl fun c hh=>sT (o':=.deferred none) (H:=[c,[(w.heap.size+6,o)]]) (pC (of:=0) (v:=.int .i64 0) (H:=[c,[(w.heap.size+6,o)],[(w.heap.size+5,.deferred (some []))],[(w.heap.size+4,.cells #[.string r] 9)],[(w.heap.size+3,.cells #[.pointer (some ⟨w.heap.size+2,0,none⟩)] 55)]])
    (jp (k:=8) (v:=.slice yo rd.os.length yc) (jp (k:=7) (v:=.int .u64 rd.first) (jp (k:=6) (v:=.int .i64 rd.bag) (jp (k:=5) (v:=.int .i64 rd.again) (jp (k:=4) (v:=.int .i64 rd.pace) (jp (k:=3) (v:=.int .i64 rd.deadline) (jp (k:=2) (v:=.int .i64 rd.window) (jp (k:=1) (v:=.int .i64 rd.clients) (jp (k:=0) (v:=.slice xo rd.gs.length xc) hh))))))))))
   have hD2:=ni (Sim.frame (G':=G) hs rfl fun c hh=>pC (of:=0) (v:=.int .i64 0) (H:=[c,[(w.heap.size+6,o)],[(w.heap.size+5,.deferred (some []))],[(w.heap.size+4,.cells #[.string r] 9)],[(w.heap.size+3,.cells #[.pointer (some ⟨w.heap.size+2,0,none⟩)] 55)]])
    (jp (k:=8) (v:=.slice yo rd.os.length yc) (jp (k:=7) (v:=.int .u64 rd.first) (jp (k:=6) (v:=.int .i64 rd.bag) (jp (k:=5) (v:=.int .i64 rd.again) (jp (k:=4) (v:=.int .i64 rd.pace) (jp (k:=3) (v:=.int .i64 rd.deadline) (jp (k:=2) (v:=.int .i64 rd.window) (jp (k:=1) (v:=.int .i64 rd.clients) (jp (k:=0) (v:=.slice xo rd.gs.length xc) hh)))))))))) (p:=(w.heap.size+5,.deferred (some []))) (by simp)
   rw[hsz]
   refine⟨by simp,.inl ⟨_,_,rfl,run_takeDeferred hD2,?_⟩⟩
   refine⟨_,Cx rfl rfl rfl (ni g (p:=(w.heap.size,.cells #[.slice xo rd.gs.length xc,.int .i64 rd.clients,.int .i64 rd.window,.int .i64 rd.deadline,.int .i64 rd.pace,.int .i64 rd.again,.int .i64 rd.bag,.int .u64 rd.first,.slice yo rd.os.length yc] 29)) (by simp[zV])) (ni g (p:=(w.heap.size+1,.cells #[.int .i64 0] 3)) (by simp)),?_⟩
   have hz:r.data.toList=[]:=by have:=Lib.size_eq r;rw[hs0]at this;exact List.length_eq_zero_iff.1 this.symm
   exact hok E ρ rd _ _ e1 e2 (Sim.frame g rfl fun c hh=>hh.dropsnd.dropsnd.dropsnd.dropsnd.dropsnd.dropsnd) hrd (by omega) (hres _ _ (by rw[hz];exact .whole _ _ (hrd.2.1.1 hop))) hden
  ·rw[prB_false.2 hop]at q12
   have h7:¬(dt rd).set=7:=fun q=>hop (hrd.2.1.2 q)
   have hr:eI rh 1 t.data.toList gn (rd.line+1):=hres _ _ (by rw[show r.data.toList=[] from by have:=Lib.size_eq r;rw[hs0]at this;exact List.length_eq_zero_iff.1 this.symm];exact .short _ _ h7)
   gi_wp2
   gi_region
   all_goals
    gi_wp2
    have g:=sT (o':=.deferred none) (H:=[[(w.heap.size+6,o)]]) (Holds.drew (xY (n:=0) (m:=rd.line+1) (bB (k:=8) (bB (k:=7) (bB (k:=6) (bB (k:=5) (bB (k:=4) (bB (k:=3) (bB (k:=2) (bB (k:=1) (bB (k:=0) (iy hs) rfl) rfl) rfl) rfl) rfl) rfl) rfl) rfl) rfl)))
    have hD2:=(Holds.drew (xY (n:=0) (m:=rd.line+1) (bB (k:=8) (bB (k:=7) (bB (k:=6) (bB (k:=5) (bB (k:=4) (bB (k:=3) (bB (k:=2) (bB (k:=1) (bB (k:=0) (iy hs) rfl) rfl) rfl) rfl) rfl) rfl) rfl) rfl) rfl))).own (w.heap.size+5,.deferred (some [])) (by simp[nc])
    rw[hsz]
    refine⟨by simp,.inl ⟨_,_,rfl,run_takeDeferred hD2,?_⟩⟩
    refine⟨_,Cx rfl rfl rfl (g.own (w.heap.size,.cells zV 29) (by simp)) (g.own (w.heap.size+1,.cells #[.int .i64 (rd.line+1)] 3) (by simp)),?_⟩
    exact hfail E _ _ e1 e2 g.drop.drop.drop.drop.drop.drop hr
 case stop=>
  intro o W hX
  have hD:=x_D _ _ hX
  obtain⟨E,m,b,e1,e2,hh,hres⟩:=hX
  rw[←hsz]at hD
  gi_wp2
  refine⟨by simp,.inl ⟨_,_,rfl,run_takeDeferred hD,?_⟩⟩
  have g:=sT (o':=.deferred none) (H:=[[(w.heap.size+6,o)]]) hh
  rw[hsz]
  refine⟨_,Cx rfl rfl rfl (g.own (w.heap.size,.cells zV 29) (by simp)) (g.own (w.heap.size+1,.cells #[.int .i64 m] 3) (by simp)),?_⟩
  exact hfail E m _ e1 e2 g.drop.drop.drop.drop.drop.drop hres
noncomputable def xF:co:=fun us _ _ K=>match us with
 |[v]=>sA v fun t=>ac (aC (t.length≤70000))
  (ac (ai fun rd:ah=>aS (aC (mA rd∧rd.os.length≤70000∧eI rh 1 t (Gi rd) 0)) (K (.tup [.agg (tq rd),.sy (.int 0 0)]) (aO rd) 3) true)
   (ai fun m:Int=>aS (aC (eI rh 1 t gn m)) (K (.tup [.agg [.nilS,.int 0 (.ofNat 0),.int 0 (.ofNat 0),.int 0 (.ofNat 0),.int 0 (.ofNat 0),.int 0 (.ofNat 0),.int 0 (.ofNat 0),.int 4 (.ofNat 0),.nilS],.sy (.int 0 m)]) .leaf 0) true))
 |_=>false
theorem GU:bS Tryz.prog 6 0 xF:=by
 intro us xs E ρ G F M nx w K R hE hs hd hk hr
 unfold xF at hk
 split at hk
 case h_2=>cases hk
 rename_i v
 obtain⟨s,e1,hk2⟩:=tS (E:=E) (ρ:=ρ) hk
 obtain⟨hl,hk3⟩:=aa hk2
 obtain⟨hk4,hk5⟩:=aj hk3
 obtain⟨x,ys,d1,d2,rfl⟩:=bg hd
 obtain rfl:ys=[]:=by simpa[aD] using d2.symm
 obtain rfl:x=S s:=aaZ (d1.symm.trans e1)
 obtain⟨c,hh,_,_⟩:=hs.ex
 have hsz:ByteArray.size ⟨s.toArray⟩=s.length:=by simp[ByteArray.size]
 refine WI ⟨s.toArray⟩ (by omega) hE hs.mem hh.drop R ?_ ?_
 ·intro E' m w' h1 h2 h3 h4
  exact hr _ _ _ ⟨E.at_,E'.M⟩ (fun _=>none) w' _ (aq h4 (az hk5 m)) ⟨hE.1,h1.2⟩ h2 (fun i e h=>absurd h (Nat.not_lt_zero i)) (hs.bare (G':={G with M:=E'.M}) ⟨rfl,rfl,rfl,h2⟩ h3) (by simp[den,aD,bc,aw,zV])
 ·intro E' ρ' rd w' z h1 h2 h3 h4 h5 h6 h7
  exact hr _ _ _ E' ρ' w' _ (aq ⟨h4,h5,h6⟩ (az hk4 rd)) h1 h2 (fun i e h=>absurd h (Nat.not_lt_zero i)) h3 (by
   have e:aD E' ρ' [.agg (tq rd),.sy (.int 0 0)]=some [z,.int .i64 0]:=bu h7 (bu rfl rfl)
   simp only[den,e])
theorem Gr {rd:ah} {c:Prop} (h:mA rd∧rd.os.length≤70000∧c):Gt rd.os:=⟨by omega,fun j x hx=>h.1.2.2.2 x (aaG hx)⟩
theorem Gs:Gt []:=⟨by simp,fun j x hx=>by simp at hx⟩
theorem Mb {rd:ah} {c:Prop} (h:mA rd∧c):rd.gs.length≤10:=by have:=h.1.1;omega
theorem mq {rd:ah} {t:List UInt8} {s:vA} {n:Int} {q c:Prop} {h1 h2:Value} (h:mA rd∧c∧eI rh 1 t (Gi rd) 0) (p:mN t s n)
  (hq:q↔lP ⟨h1,rd.gs,rd.clients,rd.window,rd.deadline,rd.pace,rd.again,rd.bag,rd.first,h2,rd.os⟩=lP s):q∧0=n:=by
 obtain⟨e1,e2⟩:=JE h.2.2 p.1
 refine⟨hq.2 ?_,e2⟩
 have e1:((rd.gs,⟨rd.clients,rd.window,rd.deadline,rd.pace,rd.again,rd.bag,rd.first⟩,rd.os.map cx):zc)=(s.gs,⟨s.clients,s.window,s.deadline,s.pace,s.again,s.bag,s.first⟩,s.os.map cx):=e1
 simp only[aa1,CfR.mk.injEq]at e1
 obtain⟨a1,⟨a2,a3,a4,a5,a6,a7,a8⟩,a9⟩:=e1
 simp only[lP,a1,a2,a3,a4,a5,a6,a7,a8,a9]
theorem mr {t:List UInt8} {s:vA} {m n:Int} {q:Prop} {h1 h2:Value} (h:eI rh 1 t gn m) (p:mN t s n) (hq:q↔lP ⟨h1,[],0,0,0,0,0,0,0,h2,[]⟩=lP s):q∧m=n:=by
 obtain⟨e1,e2⟩:=JE h p.1
 refine⟨hq.2 ?_,e2⟩
 have e1:(([],⟨0,0,0,0,0,0,0⟩,[]):zc)=(s.gs,⟨s.clients,s.window,s.deadline,s.pace,s.again,s.bag,s.first⟩,s.os.map cx):=e1
 simp only[aa1,CfR.mk.injEq]at e1
 obtain⟨a1,⟨a2,a3,a4,a5,a6,a7,a8⟩,a9⟩:=e1
 simp only[lP,←a1,←a2,←a3,←a4,←a5,←a6,←a7,←a8,←a9,List.map_nil]
end Go.Proofs.YtacomabmhnodlaaGreatDoor
namespace Go.Proofs.Tryz
open Go.Proofs.YtacomabmhnodlaaGreatDoor (uJ lz tP kg oA lT nV GU xF Gi tq mq mr Gr Gs Mb)
open Go Go.RowKit Go.Sy
open Go.Eng hiding ai
set_option maxRecDepth 1000000
set_option linter.unusedVariables false
set_option maxHeartbeats 4000000
noncomputable def yM:=bN Bn 0 xF 6 []
theorem CU:aZ Tryz.prog yM:=aR GU EO
def rG:XF:=.mk 32 (.one 2) (.seq (g_ 1 [p_ 0 2 (.mv (.c (.bool false)))]) (.seq (.seq (g_ 3 [p_ 0 7 (m_ 0),p_ 1 8 (.len 0 (.t 7)),p_ 2 9 (.bin 3 2 (.t 8) (i_ 4000))]) (.cond (.t 9) (.seq (g_ 2 [c_ 0 10 5 [],p_ 1 2 (m_ 10)]) .ret) .skip)) (.seq (.aft (g_ 8 [p_ 0 12 (m_ 0),c_ 1 13 6 [.t 12],p_ 2 11 (m_ 13),p_ 3 14 (.ext 0 (.t 11)),p_ 4 15 (.ext 1 (.t 11)),e_ 5 3 (.al 29 [.nilS,.int 0 (.ofNat 0),.int 0 (.ofNat 0),.int 0 (.ofNat 0),.int 0 (.ofNat 0),.int 0 (.ofNat 0),.int 0 (.ofNat 0),.int 4 (.ofNat 0),.nilS]),bd 6 (.st 9 (.t 3) (.t 14)),p_ 7 4 (m_ 15)]) [(0,[.can 0 [0,3,4],.cell 0 0 0 82 3 aM aT,.frzc 0 0 0,.cell 0 0 8 54 9 aI aV,.frzc 0 0 8,.upc 0 0 1,.upc 0 0 2,.upc 0 0 3,.upc 0 0 4,.upc 0 0 5,.upc 0 0 6,.upc 0 0 7,.up 4])]) (.seq (g_ 8 [p_ 0 17 (m_ 0),c_ 1 18 7 [.t 17],p_ 2 16 (m_ 18),p_ 3 19 (.ext 0 (.t 16)),p_ 4 20 (.ext 1 (.t 16)),e_ 5 5 (.al 37 [.nilS,.int 0 (.ofNat 0),.int 0 (.ofNat 0),.int 0 (.ofNat 0),.int 0 (.ofNat 0),.int 0 (.ofNat 0),.int 0 (.ofNat 0),.int 4 (.ofNat 0),.nilS]),bd 6 (.st 9 (.t 5) (.t 19)),p_ 7 6 (m_ 20)]) (.seq (g_ 12 [r_ 0 21 (.ld true 9 (.t 3)),r_ 1 22 (.ld true 9 (.t 5)),c_ 2 23 8 [.t 21,.t 22],p_ 3 24 (m_ 23),au 4 25 24 true (m_ 4),au 5 26 24 true (m_ 6),au 6 27 24 true (.bin 3 4 (.t 25) (.t 26)),p_ 7 28 (.pick (.t 24) (.t 27) (.c (.bool false))),p_ 8 29 (m_ 28),il 9 30 29 true 5 [],p_ 10 31 (.pick (.t 29) (.t 30) (.c (.bool false))),p_ 11 2 (m_ 31)]) .ret)))))
theorem wM:ci Tryz.prog 3 rG=true:=by kernel_rfl
structure nM where
 t:List UInt8
noncomputable def kA (p:nM):IE:=([.sy (.str p.t)],.leaf,0)
noncomputable def qd (p:nM) (K:KE):Bool:=K (.bool true) .leaf 0
theorem AN (p:nM) (K:KE) (hK:qd p K=true):(cw 0 (cj yM) dC 600 rG (kA p).1 (kA p).2.1 (kA p).2.2 K)=true:=by
 refine Eq.trans (b:=(let z0:Bool:=(K (.bool false) .leaf 0);iP ((4000:Int)<(p.t.length:Int)) (aN fun p1:pQ=>mP (([],.leaf,0)=nL p1) (K (.bool true) .leaf 0)) (mP (p.t.length≤70000) (ac (ai fun rd1:ah=>iP (mA rd1∧rd1.os.length≤70000∧eI rh 1 p.t (Gi rd1) 0) (mP (rd1.gs.length=rd1.gs.length) (ai fun h1:Value=>mP ((.sy (.prow 1 rd1.gs.length):AV)=(.sy (.prow 1 rd1.gs.length):AV)) (mP (rd1.os.length=rd1.os.length) (ai fun h2:Value=>mP ((.sy (.prow 2 rd1.os.length):AV)=(.sy (.prow 2 rd1.os.length):AV)) (aH (([.sy (.str p.t)],.leaf,0)) lI gB jJ fun p2 r1=>aH (([.agg [.sy (.imm h1 3 aM rd1.gs aT),.sy (.int 0 rd1.clients),.sy (.int 0 rd1.window),.sy (.int 0 rd1.deadline),.sy (.int 0 rd1.pace),.sy (.int 0 rd1.again),.sy (.int 0 rd1.bag),.sy (.int 4 rd1.first),.sy (.imm h2 9 aI rd1.os aV)],.agg [.sy (.imm r1.s.hg 3 aM r1.s.gs aT),.sy (.int 0 r1.s.clients),.sy (.int 0 r1.s.window),.sy (.int 0 r1.s.deadline),.sy (.int 0 r1.s.pace),.sy (.int 0 r1.s.again),.sy (.int 0 r1.s.bag),.sy (.int 4 r1.s.first),.sy (.imm r1.s.ho 9 aI r1.s.os aV)]],.leaf,0)) pP jz dl fun p3 r2=>iP (r2.q) (iP ((0:Int)=r1.n) (aN fun p4:pQ=>mP (([],.leaf,0)=nL p4) (K (.bool true) .leaf 0)) z0) z0))))) true) (ai fun m1:Int=>iP (eI rh 1 p.t gn m1) (mP ((.nilS:AV)=(.nilS:AV)) (mP (0=([]:List aM).length) (ai fun h3:Value=>mP ((.sy (.prow 1 0):AV)=(.sy (.prow 1 0):AV)) (mP ((.nilS:AV)=(.nilS:AV)) (mP (0=([]:List aI).length) (ai fun h4:Value=>mP ((.sy (.prow 2 0):AV)=(.sy (.prow 2 0):AV)) (aH (([.sy (.str p.t)],.leaf,0)) lI gB jJ fun p5 r3=>aH (([.agg [.sy (.imm h3 3 aM ([]:List aM) aT),.sy (.int 0 0),.sy (.int 0 0),.sy (.int 0 0),.sy (.int 0 0),.sy (.int 0 0),.sy (.int 0 0),.sy (.int 4 0),.sy (.imm h4 9 aI ([]:List aI) aV)],.agg [.sy (.imm r3.s.hg 3 aM r3.s.gs aT),.sy (.int 0 r3.s.clients),.sy (.int 0 r3.s.window),.sy (.int 0 r3.s.deadline),.sy (.int 0 r3.s.pace),.sy (.int 0 r3.s.again),.sy (.int 0 r3.s.bag),.sy (.int 4 r3.s.first),.sy (.imm r3.s.ho 9 aI r3.s.os aV)]],.leaf,0)) pP jz dl fun p6 r4=>iP (r4.q) (iP (m1=r3.n) (aN fun p7:pQ=>mP (([],.leaf,0)=nL p7) (K (.bool true) .leaf 0)) z0) z0))))))) true))))) (by kernel_rfl) ?_
 refine iI (fun hc1=> ?_) (fun hc1=> ?_)
 refine bj ⟨⟩ ?_
 refine bi ?_
 exact hK
 refine ed ?_
 refine aE ?_ ?_
 refine am (fun rd1=> ?_)
 refine iI (fun hi2=> ?_) (fun _=>rfl)
 refine bi ?_
 refine am (fun h1=> ?_)
 refine bi (bi ?_)
 refine am (fun h2=> ?_)
 refine bi ?_
 refine ay (⟨p.t⟩:ke) rfl (by(try dsimp only[gB]);omega) fun r1 hi3=> ?_
 dsimp only[jJ]at hi3
 refine ay (⟨⟨h1,rd1.gs,rd1.clients,rd1.window,rd1.deadline,rd1.pace,rd1.again,rd1.bag,rd1.first,h2,rd1.os⟩,r1.s⟩:mp) rfl (by(try dsimp only[jz]);first|exact⟨Gr (by assumption),(show mN _ _ _ by assumption).2.1,Mb (by assumption),(show mN _ _ _ by assumption).2.2⟩|exact⟨Gs,(show mN _ _ _ by assumption).2.1,by decide,(show mN _ _ _ by assumption).2.2⟩) fun r2 hi4=> ?_
 dsimp only[dl]at hi4
 refine iI (fun hc5=> ?_) (fun hc5=> ?_)
 refine iI (fun hc6=> ?_) (fun hc6=> ?_)
 refine bj ⟨⟩ ?_
 refine bi ?_
 exact hK
 exfalso;first|exact absurd (mq (by assumption) (by assumption) (by assumption)).1 (by assumption)|exact absurd (mq (by assumption) (by assumption) (by assumption)).2 (by assumption)|exact absurd (mr (by assumption) (by assumption) (by assumption)).1 (by assumption)|exact absurd (mr (by assumption) (by assumption) (by assumption)).2 (by assumption)
 exfalso;first|exact absurd (mq (by assumption) (by assumption) (by assumption)).1 (by assumption)|exact absurd (mq (by assumption) (by assumption) (by assumption)).2 (by assumption)|exact absurd (mr (by assumption) (by assumption) (by assumption)).1 (by assumption)|exact absurd (mr (by assumption) (by assumption) (by assumption)).2 (by assumption)
 refine am (fun m1=> ?_)
 refine iI (fun hi7=> ?_) (fun _=>rfl)
 refine bi (bi ?_)
 refine am (fun h3=> ?_)
 refine bi (bi (bi ?_))
 refine am (fun h4=> ?_)
 refine bi ?_
 refine ay (⟨p.t⟩:ke) rfl (by(try dsimp only[gB]);omega) fun r3 hi8=> ?_
 dsimp only[jJ]at hi8
 refine ay (⟨⟨h3,([]:List aM),(0:Int),(0:Int),(0:Int),(0:Int),(0:Int),(0:Int),(0:Int),h4,([]:List aI)⟩,r3.s⟩:mp) rfl (by(try dsimp only[jz]);first|exact⟨Gr (by assumption),(show mN _ _ _ by assumption).2.1,Mb (by assumption),(show mN _ _ _ by assumption).2.2⟩|exact⟨Gs,(show mN _ _ _ by assumption).2.1,by decide,(show mN _ _ _ by assumption).2.2⟩) fun r4 hi9=> ?_
 dsimp only[dl]at hi9
 refine iI (fun hc10=> ?_) (fun hc10=> ?_)
 refine iI (fun hc11=> ?_) (fun hc11=> ?_)
 refine bj ⟨⟩ ?_
 refine bi ?_
 exact hK
 exfalso;first|exact absurd (mq (by assumption) (by assumption) (by assumption)).1 (by assumption)|exact absurd (mq (by assumption) (by assumption) (by assumption)).2 (by assumption)|exact absurd (mr (by assumption) (by assumption) (by assumption)).1 (by assumption)|exact absurd (mr (by assumption) (by assumption) (by assumption)).2 (by assumption)
 exfalso;first|exact absurd (mq (by assumption) (by assumption) (by assumption)).1 (by assumption)|exact absurd (mq (by assumption) (by assumption) (by assumption)).2 (by assumption)|exact absurd (mr (by assumption) (by assumption) (by assumption)).1 (by assumption)|exact absurd (mr (by assumption) (by assumption) (by assumption)).2 (by assumption)
theorem na_scriptParses:bS Tryz.prog 3 0 (ck kA qd):=(nD (f:=3) (k:=0) (aQ CU) wM (by rfl) (by rfl) AN)
end Go.Proofs.Tryz
namespace Go.Proofs.YtacomabmhnodlaaGreatDoor.scriptParses
open Go Go.RowKit Go.Eng Go.Sy Go.ChangeShapes Go.WideShapes Go.ChangeAt
open Go.ChangeMaps (open_string)
set_option linter.unusedVariables false
set_option maxRecDepth 100000
theorem own:ownKnob Tryz.prog.godebug=none:=by kernel_rfl
theorem EV {H:Type} {enc:TypeId×Value→H} {a:Assume} {C:Checked} {os:Os} {f:FuncId} {fn:Func} {s:ChangeSpec} {conds:List PathCond} {apart fresh handsOn again:Bool} {X:World→Array Value→Prop} (hX:∀(w w':World) (args:Array Value),w.heap=w'.heap→X w args→X w' args) (own:ownKnob C.prog.godebug=none) (started:os.Started) (noInit:C.prog.inits.idxOf? f=none) (hfn:C.prog.funcs[f]?=some fn)
  (witness:∃(w:World) (tape:Tape) (i:Input),w.os=os∧(w.forCall tape i).Shaped C.prog∧i.vars=[]∧Input.okWide C.prog (w.forCall tape i) .any w.heap.size f i∧((s.pre enc C.prog fn conds apart (w.forCall tape i).memory i.args∧X (w.forCall tape i).memory i.args)∧sizedMet enc C.prog fn (OpenSpec.ofChange s) apart (w.forCall tape i).memory i.args)∧a.holds C.prog (lone (Frame.enter C.prog f i.args .normal) [] (w.forCall tape i)))
  (contract:∀(W:World) (base:Nat) (args:Array Value) (ds gs:List (DataW H)) (before:List MemPlace),(∀(j:Nat) t v,fn.params[j]?=some t→args[j]?=some v→Value.okWide C.prog W .any base t v)→DataW.Whole enc C.prog fn.params.toList s.vars apart W args.toList ds gs before→X W args→W.ShapedOpen C.prog→
   Calls C.prog f args W fun e W'=>∃v,e= .returned v∧s.post enc C.prog fn apart fresh handsOn again W args v W'):
  ReturnsInHanded a C os f .any (fun w args=>(s.pre enc C.prog fn conds apart w args∧X w args)∧sizedMet enc C.prog fn (OpenSpec.ofChange s) apart w args) (s.post enc C.prog fn apart fresh handsOn again):=by
 refine returnsInHanded_of_calls own started noInit witness ?_
 intro w tape i _ hsh _ hok hpre _
 obtain⟨_,_,_,fn',hfn',_,_,_,_,hval⟩:=hok
 obtain rfl:=aaZ (hfn'.symm.trans hfn)
 obtain⟨⟨⟨ds,gs,before,hw,_⟩,hx⟩,_⟩:=hpre
 refine(contract _ _ i.args ds gs before hval (DataW.Whole.of_heap (w':=w.forCall tape i) (by rfl) hw) (hX _ _ _ (by rfl) hx) hsh).mono fun e W' ⟨v,he,hp⟩=> ?_
 subst he
 exact ChangeSpec.post_blind hp
theorem LP {W:World} (h:W.ShapedOpen Tryz.prog):∃m T fz,W.heap[0]?=some (.cells #[.int .i64 m] T fz):=by
 have hz:(((begin Tryz.prog (fun _ _=>0) default).world.heap[0]?).bind Obj.row?).map (fun x=>(x.1.size,x.2))=some (1,3):=by kernel_rfl
 obtain⟨⟨zero,t⟩,hz1,hz2⟩:=Option.map_eq_some_iff.1 hz
 simp only[aa1]at hz2
 obtain⟨hz2,rfl⟩:=hz2
 obtain⟨cs,h1,h2,_⟩:=h.1 0 zero 3 (of_decide_eq_true (by kernel_rfl)) hz1
 obtain⟨m,hm⟩:=Go.Proofs.cell_of_shapedOpen_int (t:=3) (k:=.i64) h (of_decide_eq_true (by kernel_rfl)) hz1 hz2 (by kernel_rfl) (by kernel_rfl) Tryz.underlying3
 obtain⟨l⟩:=cs
 rw[hz2]at h2
 match l,h2 with
 |[v],_=>
  have:some v=some (Value.int .i64 m):=by rw[←hm];simp[World.cell?,h1]
  cases this
  exact⟨m,3,_,h1⟩
theorem Wa:("*" ++ "errors.errorString" :String)= "*errors.errorString" :=by decide
theorem JD (u:TypeId) (h:Tryz.prog.typeName? 3 u=some "*errors.errorString"):u=201:=
 typeName_ptr_named (nm:= "errors.errorString") (by rw[Wa];kernel_rfl) (by kernel_rfl) (by decide) u (by rw[Wa];exact h)
theorem Cm {W:World} {n:String} {g:Nat} {c:Array Value} (hg:Tryz.prog.globalNamed n=some g) (h:W.var? Tryz.prog n=some c):∃T fz,W.heap[g]?=some (.cells c T fz):=by
 simp only[World.var?,hg,Option.bind_some]at h
 rcases hh:W.heap[g]? with _|o
 ·simp[hh]at h
 ·cases o<;>simp[hh]at h
  rename_i c T fz
  subst h
  exact⟨T,fz,rfl⟩
theorem Sg {W:World} (hL:laidMet Tryz.prog Rows.scriptParsesRow.laid W) (hs:W.ShapedOpen Tryz.prog):Tied (GS.of W).M:=by
 have h10:∃T fz,W.heap[1]?=some (.cells (Lib.pow10Tab.map fun z=>Value.int .u64 z).toArray T fz):=by
  obtain⟨ps,h,_⟩:=hL.tail.tail
  obtain⟨g,t,cs,fuel,p,q,hg,ht,hvar,hd,_,_⟩:=h
  obtain rfl:=aaZ ((show Tryz.prog.globalNamed "internal/strconv.uint64pow10" =some 1 by kernel_rfl).symm.trans hg)
  obtain rfl:=aaZ ((show(Tryz.prog.globals[1]?).map (·.type)=some 177 by kernel_rfl).symm.trans ht)
  have e:=Lib.cells_of_tab (zs:=Lib.pow10Tab) (k:=.u64) Tryz.underlying177 Tryz.underlying24 (by kernel_rfl) (by kernel_rfl) hd
  obtain⟨T,fz,h⟩:=Cm hg hvar
  exact⟨T,fz,by rw[h,←e]⟩
 obtain⟨a1,s1,hv1,_⟩:=laid_sentinel hL.tail.tail.tail.tail (show Tryz.prog.globalNamed "strconv.ErrRange" =some 5 by kernel_rfl) (show(Tryz.prog.globals[5]?).map (·.type)=some 93 by kernel_rfl) Tryz.underlying93 JD Tryz.underlying201 Tryz.underlying203 rfl rfl Tryz.underlying9 (by kernel_rfl) (by kernel_rfl)
 obtain⟨a2,s2,hv2,_⟩:=laid_sentinel hL.tail.tail.tail.tail.tail (show Tryz.prog.globalNamed "strconv.ErrSyntax" =some 4 by kernel_rfl) (show(Tryz.prog.globals[4]?).map (·.type)=some 93 by kernel_rfl) Tryz.underlying93 JD Tryz.underlying201 Tryz.underlying203 rfl rfl Tryz.underlying9 (by kernel_rfl) (by kernel_rfl)
 obtain⟨T1,f1,h1⟩:=Cm (g:=5) (by kernel_rfl) hv1
 obtain⟨T2,f2,h2⟩:=Cm (g:=4) (by kernel_rfl) hv2
 obtain⟨m,T3,f3,h3⟩:=LP hs
 exact⟨h10,⟨_,_,T2,f2,h2⟩,⟨_,_,T1,f1,h1⟩,m,T3,f3,h3⟩
noncomputable def Zy:Nat:=(World.holding Tryz.prog default ⟨#[],#[],[]⟩).heap.size
noncomputable def Ei (os:Os):World:=
 let w0:=World.holding Tryz.prog os ⟨#[.cells #[.string {data:= #[118,97,108,117,101,32,111,117,116,32,111,102,32,114,97,110,103,101]}] 203,.cells #[.string {data:= #[105,110,118,97,108,105,100,32,115,121,110,116,97,120]}] 203],#[],[]⟩
 {w0 with heap:=(((((((w0.heap.modify 6 fun
   |.cells _ t frozen=>.cells #[.int .u8 0,.int .u8 1,.int .u8 28,.int .u8 2,.int .u8 29,.int .u8 14,.int .u8 24,.int .u8 3,.int .u8 30,.int .u8 22,.int .u8 20,.int .u8 15,.int .u8 25,.int .u8 17,.int .u8 4,.int .u8 8,.int .u8 31,.int .u8 27,.int .u8 13,.int .u8 23,.int .u8 21,.int .u8 19,.int .u8 16,.int .u8 7,.int .u8 26,.int .u8 12,.int .u8 18,.int .u8 6,.int .u8 11,.int .u8 5,.int .u8 10,.int .u8 9] t frozen
   |o=>o).modify 7 fun
   |.cells _ t frozen=>.cells #[.int .u8 0,.int .u8 1,.int .u8 56,.int .u8 2,.int .u8 57,.int .u8 49,.int .u8 28,.int .u8 3,.int .u8 61,.int .u8 58,.int .u8 42,.int .u8 50,.int .u8 38,.int .u8 29,.int .u8 17,.int .u8 4,.int .u8 62,.int .u8 47,.int .u8 59,.int .u8 36,.int .u8 45,.int .u8 43,.int .u8 51,.int .u8 22,.int .u8 53,.int .u8 39,.int .u8 33,.int .u8 30,.int .u8 24,.int .u8 18,.int .u8 12,.int .u8 5,.int .u8 63,.int .u8 55,.int .u8 48,.int .u8 27,.int .u8 60,.int .u8 41,.int .u8 37,.int .u8 16,.int .u8 46,.int .u8 35,.int .u8 44,.int .u8 21,.int .u8 52,.int .u8 32,.int .u8 23,.int .u8 11,.int .u8 54,.int .u8 26,.int .u8 40,.int .u8 15,.int .u8 34,.int .u8 20,.int .u8 31,.int .u8 10,.int .u8 25,.int .u8 14,.int .u8 19,.int .u8 9,.int .u8 13,.int .u8 8,.int .u8 7,.int .u8 6] t frozen
   |o=>o).modify 1 fun
   |.cells _ t frozen=>.cells #[.int .u64 1,.int .u64 10,.int .u64 100,.int .u64 1000,.int .u64 10000,.int .u64 100000,.int .u64 1000000,.int .u64 10000000,.int .u64 100000000,.int .u64 1000000000,.int .u64 10000000000,.int .u64 100000000000,.int .u64 1000000000000,.int .u64 10000000000000,.int .u64 100000000000000,.int .u64 1000000000000000,.int .u64 10000000000000000,.int .u64 100000000000000000,.int .u64 1000000000000000000,.int .u64 10000000000000000000] t frozen
   |o=>o).modify 3 fun
   |.cells _ t frozen=>.cells #[.int .u8 128,.int .u8 191,.int .u8 160,.int .u8 191,.int .u8 128,.int .u8 159,.int .u8 144,.int .u8 191,.int .u8 128,.int .u8 143,.int .u8 0,.int .u8 0,.int .u8 0,.int .u8 0,.int .u8 0,.int .u8 0,.int .u8 0,.int .u8 0,.int .u8 0,.int .u8 0,.int .u8 0,.int .u8 0,.int .u8 0,.int .u8 0,.int .u8 0,.int .u8 0,.int .u8 0,.int .u8 0,.int .u8 0,.int .u8 0,.int .u8 0,.int .u8 0] t frozen
   |o=>o).modify 5 fun
   |.cells _ t frozen=>.cells #[.iface 201 (.pointer (some ⟨Zy+0,0,none⟩))] t frozen
   |o=>o).modify 4 fun
   |.cells _ t frozen=>.cells #[.iface 201 (.pointer (some ⟨Zy+1,0,none⟩))] t frozen
   |o=>o).modify 2 fun
   |.cells _ t frozen=>.cells #[.int .u8 240,.int .u8 240,.int .u8 240,.int .u8 240,.int .u8 240,.int .u8 240,.int .u8 240,.int .u8 240,.int .u8 240,.int .u8 240,.int .u8 240,.int .u8 240,.int .u8 240,.int .u8 240,.int .u8 240,.int .u8 240,.int .u8 240,.int .u8 240,.int .u8 240,.int .u8 240,.int .u8 240,.int .u8 240,.int .u8 240,.int .u8 240,.int .u8 240,.int .u8 240,.int .u8 240,.int .u8 240,.int .u8 240,.int .u8 240,.int .u8 240,.int .u8 240,.int .u8 240,.int .u8 240,.int .u8 240,.int .u8 240,.int .u8 240,.int .u8 240,.int .u8 240,.int .u8 240,.int .u8 240,.int .u8 240,.int .u8 240,.int .u8 240,.int .u8 240,.int .u8 240,.int .u8 240,.int .u8 240,.int .u8 240,.int .u8 240,.int .u8 240,.int .u8 240,.int .u8 240,.int .u8 240,.int .u8 240,.int .u8 240,.int .u8 240,.int .u8 240,.int .u8 240,.int .u8 240,.int .u8 240,.int .u8 240,.int .u8 240,.int .u8 240,.int .u8 240,.int .u8 240,.int .u8 240,.int .u8 240,.int .u8 240,.int .u8 240,.int .u8 240,.int .u8 240,.int .u8 240,.int .u8 240,.int .u8 240,.int .u8 240,.int .u8 240,.int .u8 240,.int .u8 240,.int .u8 240,.int .u8 240,.int .u8 240,.int .u8 240,.int .u8 240,.int .u8 240,.int .u8 240,.int .u8 240,.int .u8 240,.int .u8 240,.int .u8 240,.int .u8 240,.int .u8 240,.int .u8 240,.int .u8 240,.int .u8 240,.int .u8 240,.int .u8 240,.int .u8 240,.int .u8 240,.int .u8 240,.int .u8 240,.int .u8 240,.int .u8 240,.int .u8 240,.int .u8 240,.int .u8 240,.int .u8 240,.int .u8 240,.int .u8 240,.int .u8 240,.int .u8 240,.int .u8 240,.int .u8 240,.int .u8 240,.int .u8 240,.int .u8 240,.int .u8 240,.int .u8 240,.int .u8 240,.int .u8 240,.int .u8 240,.int .u8 240,.int .u8 240,.int .u8 240,.int .u8 240,.int .u8 240,.int .u8 240,.int .u8 240,.int .u8 241,.int .u8 241,.int .u8 241,.int .u8 241,.int .u8 241,.int .u8 241,.int .u8 241,.int .u8 241,.int .u8 241,.int .u8 241,.int .u8 241,.int .u8 241,.int .u8 241,.int .u8 241,.int .u8 241,.int .u8 241,.int .u8 241,.int .u8 241,.int .u8 241,.int .u8 241,.int .u8 241,.int .u8 241,.int .u8 241,.int .u8 241,.int .u8 241,.int .u8 241,.int .u8 241,.int .u8 241,.int .u8 241,.int .u8 241,.int .u8 241,.int .u8 241,.int .u8 241,.int .u8 241,.int .u8 241,.int .u8 241,.int .u8 241,.int .u8 241,.int .u8 241,.int .u8 241,.int .u8 241,.int .u8 241,.int .u8 241,.int .u8 241,.int .u8 241,.int .u8 241,.int .u8 241,.int .u8 241,.int .u8 241,.int .u8 241,.int .u8 241,.int .u8 241,.int .u8 241,.int .u8 241,.int .u8 241,.int .u8 241,.int .u8 241,.int .u8 241,.int .u8 241,.int .u8 241,.int .u8 241,.int .u8 241,.int .u8 241,.int .u8 241,.int .u8 241,.int .u8 241,.int .u8 2,.int .u8 2,.int .u8 2,.int .u8 2,.int .u8 2,.int .u8 2,.int .u8 2,.int .u8 2,.int .u8 2,.int .u8 2,.int .u8 2,.int .u8 2,.int .u8 2,.int .u8 2,.int .u8 2,.int .u8 2,.int .u8 2,.int .u8 2,.int .u8 2,.int .u8 2,.int .u8 2,.int .u8 2,.int .u8 2,.int .u8 2,.int .u8 2,.int .u8 2,.int .u8 2,.int .u8 2,.int .u8 2,.int .u8 2,.int .u8 19,.int .u8 3,.int .u8 3,.int .u8 3,.int .u8 3,.int .u8 3,.int .u8 3,.int .u8 3,.int .u8 3,.int .u8 3,.int .u8 3,.int .u8 3,.int .u8 3,.int .u8 35,.int .u8 3,.int .u8 3,.int .u8 52,.int .u8 4,.int .u8 4,.int .u8 4,.int .u8 68,.int .u8 241,.int .u8 241,.int .u8 241,.int .u8 241,.int .u8 241,.int .u8 241,.int .u8 241,.int .u8 241,.int .u8 241,.int .u8 241,.int .u8 241] t frozen
   |o=>o)}
theorem EU (os:Os) (args:Array Value):laidMet Tryz.prog Rows.scriptParsesRow.laid ((Ei os).forCall (fun _ _=>0) ⟨#[],args,[]⟩).memory:=
 laidMet_of_run' 8 (by kernel_rfl) (by kernel_rfl)
theorem ZW (t:List UInt8) (w:World) (ht:Tied (GS.of w).M):Calls Tryz.prog 3 #[S t] w (Ret (GS.of w) [] fun _ v=>v= .bool true):=by
 let K:AV→T→Nat→Bool:=fun v _ _=>aC (v= .bool true)
 have hE:dG ⟨fun _=>.bool true,(GS.of w).M⟩:=⟨fun i=>rfl,ht⟩
 have hd:aD ⟨fun _=>.bool true,(GS.of w).M⟩ (fun _=>none) [.sy (.str t)]=some [S t]:=by
  simp only[aD,den,bc]
 refine Tryz.na_scriptParses [.sy (.str t)] [S t] ⟨fun _=>.bool true,(GS.of w).M⟩ (fun _=>none) (GS.of w) [] .leaf 0 w K _ hE (Sim.start rfl (Holds.start w)) hd ?_ ?_
 ·exact bj ⟨t⟩ (bl rfl (prB_true.2 rfl))
 ·intro v M' nx' E' ρ' w' z hk h1 h2 h3 h4 h5
  obtain⟨G',g1,g2,g3⟩:=h4.holds
  refine⟨z,G',rfl,g1,g2,?_⟩
  have:=prB_true.1 hk
  subst this
  simpa[den] using h5.symm
theorem Xy (os:Os) (started:os.Started) (H:Type) (enc:TypeId×Value→H):
  ReturnsInHanded {} Tryz.checked os 3 .any (fun w args=>(Rows.scriptParsesSpec.pre enc Tryz.prog Tryz.f3 Rows.scriptParsesRow.domain false w args∧laidMet Tryz.prog Rows.scriptParsesRow.laid w)∧sizedMet enc Tryz.prog Tryz.f3 (OpenSpec.ofChange Rows.scriptParsesSpec) false w args)
   (Rows.scriptParsesSpec.post enc Tryz.prog Tryz.f3 false true false false):=by
 refine EV (C:=Tryz.checked) (X:=fun w _=>laidMet Tryz.prog Rows.scriptParsesRow.laid w) (fun _ _ _ hh h=>h.of_heap hh) own started (by kernel_rfl) Tryz.func3
  (ChangeSpec.witness_at (enc:=enc) (C:=Tryz.checked) (os:=os) (X:=fun w _=>laidMet Tryz.prog Rows.scriptParsesRow.laid w) false (Ei os) #[.string ⟨#[]⟩] 8 rfl (by kernel_rfl) (by kernel_rfl) (by kernel_rfl) (by kernel_rfl) (by kernel_rfl) (EU os _)) ?_
 intro W base args ds gs before hval0 hW hL hsh
 have hval:∀(j:Nat) t v,Tryz.f3.params[j]?=some t→args[j]?=some v→Value.okWide Tryz.prog W .any base t v:=hval0
 have hW':=hW
 obtain⟨p,q,hA0,hV,rfl,hfz,hnd⟩:=hW
 have hA:DataW.TrodAll enc Tryz.prog W 0 (fun _=>true) true Tryz.f3.params.toList args.toList ds p:=hA0
 rw[Tryz.params3]at hA hval
 obtain⟨v0,vs0,d0,ds0,p0,q0,hargs0,rfl,rfl,h0,r0⟩:=trodAll_cons hA
 obtain⟨rfl,rfl,rfl⟩:=trodAll_nil r0
 obtain rfl:args= #[v0]:=by cases args;simp_all
 obtain⟨rfl,rfl⟩:=trodVars_none hV
 obtain⟨s,rfl,rfl,rfl,ws⟩:=open_string Tryz.underlying9 (hval 0 9 v0 rfl rfl) h0
 clear hA0 hval0
 simp only[List.append_nil]at hW'
 have hw:=ZW s.data.toList W (Sg hL hsh)
 refine hw.mono fun e W2 ⟨v,G2,he,hG,hh,hv⟩=> ?_
 subst he;subst hv
 have bel:Below W.heap.size W W2:=Holds.below hG hh
 exact⟨_,rfl,_,_,_,[],_,[],hW',trodAll_mk1 (shut_bool Tryz.underlying4 _),trodAll_mk1 (Go.ChangeMaps.shut_string Tryz.underlying9 ws),rfl,bel.frame _,fun h=>by cases h⟩
theorem aae:Rows.scriptParsesRow.holds Tryz.pinned (OpenSpec.ofChange Rows.scriptParsesSpec):=
 OpenClaim.holds_of_wide 3 Tryz.f3 rfl rfl rfl rfl rfl rfl rfl ⟨rfl,rfl,rfl,rfl,rfl⟩ rfl rfl rfl rfl rfl (by kernel_rfl) Tryz.func3 (by kernel_rfl)
  (of_decide_eq_true (by kernel_rfl)) (by unfold Func.isWrapper;first|(rw[if_pos (by decide+kernel)];kernel_rfl)|(rw[if_neg (by decide+kernel)];exact⟨rfl,rfl⟩))
  (fun os started H enc _=>Xy os started H enc)
theorem card_holds:Rows.ScriptParsesCardSaid:=
 Claim7.holds_tied_plain_at .later [] [.data,.data,.data,.data,.sentinel,.sentinel,.pinned] true (true, "f5b48b6c725d48ba83e4cb7b9d4fe1110f5c1b25068be60b15a811864d174d86") true aae (fun _ h=>by cases h) (by kernel_rfl) (fun _ h=>by cases h) scriptParses_row_tie rfl ⟨rfl,rfl⟩ (by kernel_rfl) rfl
  (fun f fn hf hfn=>by
   obtain rfl:f=3:=aaZ ((show Tryz.prog.funcNamed "gemot/gemotlaw27.ScriptParses" =some 3 by kernel_rfl).symm.trans hf)|>.symm
   obtain rfl:fn=Tryz.f3:=(aaZ (Tryz.func3.symm.trans hfn)).symm
   exact⟨by kernel_rfl,fun j t ht=>by
    rw[Tryz.params3]at ht
    have ht2:=aaG (by simpa using ht)
    simp only[List.mem_cons,List.not_mem_nil,or_false,or_self]at ht2
    subst ht2
    exact(show Tryz.prog.wantsStandIn 9=false by kernel_rfl)
    ⟩)
  (by kernel_rfl)
#print axioms card_holds
end Go.Proofs.YtacomabmhnodlaaGreatDoor.scriptParses
