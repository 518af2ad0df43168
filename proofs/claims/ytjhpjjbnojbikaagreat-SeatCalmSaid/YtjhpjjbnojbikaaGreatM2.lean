/- Definitions and lemmas of the proof, without a condition of their own. -/
import Derived.Test.YtjhpjjbnojbikaaGreatM1
import Derived.LoopN
import Derived.Laws.ResultCell
import Derived.Test.YtjhpjjbnojbikaaGreatProg
import Derived.KernelRfl
open List renaming flatten_cons→akq,length_append→akk,mem_of_getElem?→akp
open Nat renaming blt_eq→akF,eq_of_beq_eq_true→ako,le_refl→akz
namespace Go.Sy
open Go Go.RowKit Go.Eng
section
variable {P:Program} {E:Env} {ρ:Ren} {G:GS} {F:List bo} {M:T} {nx:Nat} {w:World}
noncomputable def Ys (v:AV) (Ty sz:Nat) (α:Type) (enc:α→List PL) (M:T) (nx:Nat) (K:AV→T→Nat→Bool):Bool:=br (eG v) (mE v fun s=>SY.casesOn s (fun _ _=>false) (fun _=>false) (fun _=>false) (fun _ _ _ _ _=>false) (fun _ _ _=>false) (fun i n=>iG M i fun Ty' sz' _ l _=>ac (Nat.beq Ty Ty') (ac (Nat.beq sz sz') (ac (aF (l=[])) (T.set bI M i (some (.prow Ty sz α [] enc)) fun M'=>K (.sy (.prow i n)) M' nx)))) (fun _ _ _ _ _ _=>false) (fun _ _ _ _=>false) (fun _ _ _=>false) (fun _=>false)) (vF v
 (ac (Nat.blt 0 sz) (T.set bI M nx (some (.prow Ty sz α [] enc)) fun M'=>fN (Nat.succ nx) fun q=>K (.sy (.prow nx 0)) M' q))
 (fun i o n c=>ac (Nat.beq o 0) (dE M i fun g Ty' sz' els=>ac (Nat.beq Ty Ty') (ac (Nat.beq sz sz') (ACap.casesOn c
  (fun c=>ac (Bool.rec true false g) (ac (Nat.beq n 0) (ac (Nat.beq (dN els) c) (ac (Nat.ble c 9223372036854775807)
   (T.set bI M i none fun M1=>T.set bI M1 nx (some (.prow Ty sz α [] enc)) fun M'=>fN (Nat.succ nx) fun q=>K (.sy (.prow nx 0)) M' q)))))
  (fun k=>ac (Nat.beq k 0) (ac g (ac (Nat.beq (dN els) n) (Pu els fun pss=>ax fun l:List α=>ac (aF (l.map enc=pss))
   (T.set bI M i none fun M1=>T.set bI M1 nx (some (.prow Ty sz α l enc)) fun M'=>fN (Nat.succ nx) fun q=>K (.sy (.prow nx l.length)) M' q))))))))))
theorem Sim.nilRow (h:Sim E ρ G F M nx w) {M':T} {Ty sz:Nat} {α:Type} {enc:α→List PL} (hsz:0<sz) (h1:M'.get nx=some (.prow Ty sz α [] enc)) (h2:∀m,m≠nx→M'.get m=M.get m):Sim E (ρ.set nx ⟨0,0⟩) G F M' (nx+1) w:=by
 have h0:=h.fresh nx (akz _)
 have hle:=Ren.le_set (ρ:=ρ) ⟨0,0⟩ h0
 obtain⟨c,hh,hob,hinj⟩:=h.ex
 refine⟨⟨c,hh,fun j o hj=> ?_,fun j k e f o o' hj hk he hf hb1 hb2 hb=> ?_⟩,h.mem,fun j hj=> ?_⟩
 ·by_cases q:j=nx
  ·subst q
   rw[h1]at hj;cases hj
   exact⟨_,Ren.set_self _ _ _,.inr ⟨rfl,rfl,hsz⟩⟩
  ·rw[h2 j q]at hj
   obtain⟨e,a1,⟨q1,ob,q2,q3⟩|q1⟩:=hob j o hj
   ·exact⟨e,hle _ _ a1,.inl ⟨q1,ob,q2,q3.mono hle⟩⟩
   ·exact⟨e,hle _ _ a1,.inr q1⟩
 ·have nb:∀m e o,M'.get m=some o→ρ.set nx ⟨0,0⟩ m=some e→cG e o=true→m≠nx:=fun m e o q1 q2 q3 q4=>by
   subst q4
   rw[h1]at q1;cases q1
   rw[Ren.set_self]at q2;cases q2
   cases q3
  have nj:=nb j e o hj he hb1
  have nk:=nb k f o' hk hf hb2
  rw[h2 j nj]at hj
  rw[h2 k nk]at hk
  rw[Ren.set_ne _ nj]at he
  rw[Ren.set_ne _ nk]at hf
  exact hinj j k e f o o' hj hk he hf hb1 hb2 hb
 ·rw[Ren.set_ne _ (by omega)]
  exact h.fresh j (by omega)
theorem Sim.rekey (h:Sim E ρ G F M nx w) {i:Nat} {o o':AObj} {e e':eD} {M':T} (hi:M.get i=some o) (he:ρ i=some e) (hb:e'.b=e.b) (hB:cG e o=true) (hB':cG e' o'=true) (hr:∀ob,ORel E ρ e o ob→ORel E ρ e' o' ob)
  (h1:M'.get nx=some o') (h2:∀m,m≠nx→m≠i→M'.get m=M.get m) (h3:M'.get i=none):Sim E (ρ.set nx e') G F M' (nx+1) w:=by
 have h0:=h.fresh nx (akz _)
 have hle:=Ren.le_set (ρ:=ρ) e' h0
 have hinx:i≠nx:=fun q=>by rw[q,h0]at he;cases he
 obtain⟨c,hh,hob,hinj⟩:=h.ex
 refine⟨⟨c,hh,fun j o2 hj=> ?_,fun j k f1 f2 o1 o2 hj hk hf1 hf2 hb1 hb2 hbb=> ?_⟩,h.mem,fun j hj=> ?_⟩
 ·by_cases q:j=nx
  ·subst q
   rw[h1]at hj;cases hj
   obtain⟨f,a1,⟨q1,ob,q2,q3⟩|⟨q1,_⟩⟩:=hob i o hi
   ·rw[he]at a1;cases a1
    exact⟨e',Ren.set_self _ _ _,.inl ⟨hB',ob,by rw[hb];exact q2,(hr ob q3).mono hle⟩⟩
   ·rw[he]at a1;cases a1
    rw[hB]at q1;cases q1
  ·have qi:j≠i:=fun q=>by subst q;rw[h3]at hj;cases hj
   rw[h2 j q qi]at hj
   obtain⟨f,a1,⟨q1,ob,q2,q3⟩|q1⟩:=hob j o2 hj
   ·exact⟨f,hle _ _ a1,.inl ⟨q1,ob,q2,q3.mono hle⟩⟩
   ·exact⟨f,hle _ _ a1,.inr q1⟩
 ·have old:∀m,m≠nx→∀o3,M'.get m=some o3→m≠i∧M.get m=some o3:=fun m q o3 q2=>by
   have qi:m≠i:=fun q=>by subst q;rw[h3]at q2;cases q2
   exact⟨qi,by rw[←h2 m q qi];exact q2⟩
  by_cases q1:j=nx
  ·by_cases q2:k=nx
   ·omega
   ·exfalso
    subst q1
    rw[Ren.set_self]at hf1;cases hf1
    rw[Ren.set_ne _ q2]at hf2
    obtain⟨p1,p2⟩:=old k q2 o2 hk
    exact p1 (hinj k i f2 e o2 o p2 hi hf2 he hb2 hB (by rw[←hb,hbb]))
  ·by_cases q2:k=nx
   ·exfalso
    subst q2
    rw[Ren.set_self]at hf2;cases hf2
    rw[Ren.set_ne _ q1]at hf1
    obtain⟨p1,p2⟩:=old j q1 o1 hj
    exact p1 (hinj j i f1 e o1 o p2 hi hf1 he hb1 hB (by rw[hbb,hb]))
   ·rw[Ren.set_ne _ q1]at hf1
    rw[Ren.set_ne _ q2]at hf2
    exact hinj j k f1 f2 o1 o2 (old j q1 o1 hj).2 (old k q2 o2 hk).2 hf1 hf2 hb1 hb2 hbb
 ·rw[Ren.set_ne _ (by omega)]
  exact h.fresh j (by omega)
theorem Sim.reobj (h:Sim E ρ G F M nx w) {i:Nat} {o o':AObj} (hi:M.get i=some o) (hB:∀e,cG e o'=cG e o) (hr:∀e ob,ρ i=some e→ORel E ρ e o ob→ORel E ρ e o' ob) (hn:Jv o→Jv o') {M':T} (h1:M'.get i=some o') (h2:∀m,m≠i→M'.get m=M.get m):Sim E ρ G F M' nx w:=by
 obtain⟨c,hh,hob,hinj⟩:=h.ex
 have old:∀m o2,M'.get m=some o2→∃o3,M.get m=some o3∧∀e,cG e o2=cG e o3:=fun m o2 hm=>by
  by_cases q1:m=i
  ·subst q1
   rw[h1]at hm;cases hm
   exact⟨_,hi,hB⟩
  ·rw[h2 m q1]at hm
   exact⟨o2,hm,fun e=>rfl⟩
 refine⟨⟨c,hh,fun m o2 hm=> ?_,fun m k e f o2 o3 hm hk he hf hb1 hb2 hb=> ?_⟩,h.mem,h.fresh⟩
 ·by_cases q1:m=i
  ·subst q1
   rw[h1]at hm;cases hm
   obtain⟨e,a1,⟨b1,ob,b2,b3⟩|⟨b1,b2⟩⟩:=hob m _ hi
   ·exact⟨e,a1,.inl ⟨by rw[hB];exact b1,ob,b2,hr e ob a1 b3⟩⟩
   ·exact⟨e,a1,.inr ⟨by rw[hB];exact b1,hn b2⟩⟩
  ·rw[h2 m q1]at hm
   exact hob m o2 hm
 ·obtain⟨o4,f1,f2⟩:=old m o2 hm
  obtain⟨o5,f3,f4⟩:=old k o3 hk
  rw[f2]at hb1
  rw[f4]at hb2
  exact hinj m k e f o4 o5 f1 f3 he hf hb1 hb2 hb
theorem TB (h:Sim E ρ G F M nx w) {v:AV} {Ty sz:Nat} {α:Type} {enc:α→List PL} {K:AV→T→Nat→Bool} (hk:Ys v Ty sz α enc M nx K=true):
  ∃v' M' nx' ρ',ρ.Le ρ'∧Sim E ρ' G F M' nx' w∧K v' M' nx'=true∧(∀x,den E ρ v=some x→den E ρ' v'=some x)∧v≠ .bad:=by
 have h0:=h.fresh nx (akz _)
 rcases bk hk with⟨-,g⟩|⟨-,hk⟩
 ·replace g:=eV g
  clear hk
  obtain⟨s,rfl,g⟩:=g
  cases s<;>first|(cases g;done)|skip
  case prow i n=>
   obtain⟨Ty',sz',α',l,enc',hi,g1⟩:=eO g
   obtain⟨q1,g2⟩:=aq g1
   obtain⟨q2,g3⟩:=aq g2
   have q1:=ako q1
   have q2:=ako q2
   subst q1;subst q2
   obtain⟨hl,g4⟩:=ae g3
   subst hl
   obtain⟨M',g5,s1,s2⟩:=T.set_ok _ _ _ _ _ g4
   refine⟨_,M',nx,ρ,Ren.Le.refl _,h.reobj (o':=.prow Ty sz α [] enc) hi (fun e=>rfl) (fun e ob _ hr=> ?_) (fun q=>⟨rfl,q.2⟩) s1 s2,g5,fun x hx=>hx,by simp⟩
   obtain⟨arr,xs,o1,o2,o3,o4,o5,o6,o7⟩:=hr
   exact⟨arr,xs,o1,o2,fun y hy=>(by simp at hy),by simpa using o4,o5,o6,o7⟩
 rcases jX hk with⟨e,g⟩|⟨i,o,n,c,e,g⟩
 ·obtain⟨g1,g2⟩:=aq g
  rw[akF]at g1
  obtain⟨M',k1,s1,s2⟩:=T.set_ok _ _ _ _ _ g2
  rw[bW]at k1
  have hle:=Ren.le_set (ρ:=ρ) ⟨0,0⟩ h0
  refine⟨_,M',nx+1,_,hle,h.nilRow g1 s1 s2,k1,(fun x hx=> ?_),(by rw[e];simp)⟩
  rw[e]at hx
  cases hx
  simp[den,bx,Ren.set_self,AI]
 ·obtain⟨q2,g2⟩:=aq g
  have q2:=ako q2
  subst q2
  obtain⟨gr,Ty',sz',els,hi,g3⟩:=ch g2
  obtain⟨q4,g5⟩:=aq g3
  obtain⟨q5,g6⟩:=aq g5
  have q4:=ako q4
  have q5:=ako q5
  subst q4;subst q5
  obtain⟨f,arr,xs,e1,e2,e3,e4,e5,e6,e7,e8,e9⟩:=h.cellsAt hi
  have hinx:i≠nx:=fun q=>by rw[q,h0]at e1;cases e1
  cases c with
  |ex c=>
   obtain⟨q1,g7⟩:=aq g6
   obtain⟨q3,g8⟩:=aq g7
   obtain⟨q6,g9⟩:=aq g8
   obtain⟨q7,g10⟩:=aq g9
   have q1:gr=false:=by cases gr;rfl;cases q1
   subst q1
   have q3:=ako q3
   subst q3
   have q6:els.length=c:=by rw[←cF];exact ako q6
   rw[Nat.ble_eq]at q7
   obtain⟨M1,k1,s1,s2⟩:=T.set_ok _ _ _ _ _ g10
   obtain⟨M',k2,s3,s4⟩:=T.set_ok _ _ _ _ _ k1
   rw[bW]at k2
   have hle:=Ren.le_set (ρ:=ρ) ⟨f.b,c+1⟩ h0
   refine⟨_,M',nx+1,_,hle,h.rekey (o':=.prow Ty sz α [] enc) (e':=⟨f.b,c+1⟩) hi e1 rfl rfl (fK rfl) (fun ob hr=> ?_) s3 (fun m a1 a2=>by rw[s4 m a1,s2 m a2]) (by rw[s4 i hinx,s1]),k2,(fun x hx=> ?_),(by rw[e];simp)⟩
   ·obtain⟨_,_,arr',xs',o1,o2,o3⟩:=hr
    simp only[cond_false]at o3
    have hl:=cL o2
    rw[eI e4,←o3,Array.length_toList]at hl
    refine⟨arr',[],o1,e5,fun y hy=>(by simp at hy),by simp[tn],?_,by simp,by simp,by simpa[maxLen] using q7⟩
    simp only[Nat.add_sub_cancel]
    rw[hl,q6]
   ·rw[e]at hx
    simp only[den,e1,dr]at hx
    cases hx
    simp[den,bx,Ren.set_self,AI]
  |rest k=>
   obtain⟨q1,g7⟩:=aq g6
   have q1:=ako q1
   subst q1
   obtain⟨q3,g8⟩:=aq g7
   subst q3
   obtain⟨q6,g9⟩:=aq g8
   have q6:els.length=n:=by rw[←cF];exact ako q6
   obtain⟨p1,p2,p3⟩:=e9 rfl
   obtain⟨pss,g10,r1,r2,r3,r4⟩:=GY e3 e4 g9
   obtain⟨l,g11⟩:=bJ g10
   obtain⟨hl,g12⟩:=ae g11
   obtain⟨M1,k1,s1,s2⟩:=T.set_ok _ _ _ _ _ g12
   obtain⟨M',k2,s3,s4⟩:=T.set_ok _ _ _ _ _ k1
   rw[bW]at k2
   have hle:=Ren.le_set (ρ:=ρ) ⟨f.b,f.cap+1⟩ h0
   have hlen:l.length=els.length:=by rw[←r4,←hl,List.length_map]
   refine⟨_,M',nx+1,_,hle,h.rekey (o':=.prow Ty sz α l enc) (e':=⟨f.b,f.cap+1⟩) hi e1 rfl rfl (fK rfl) (fun ob hr=> ?_) s3 (fun m a1 a2=>by rw[s4 m a1,s2 m a2]) (by rw[s4 i hinx,s1]),k2,(fun x hx=> ?_),(by rw[e];simp)⟩
   ·obtain⟨_,_,arr',xs',o1,o2,o3⟩:=hr
    rw[e3]at o2
    cases o2
    simp only[cond_true]at o3
    obtain⟨u1,u2,u3,u4⟩:=o3
    have hx:xs=(l.flatMap enc).map bQ:=by rw[r1,←hl,List.flatMap_def]
    refine⟨arr',xs,o1,e5,fun y hy=>r3 _ (by rw[←hl];exact List.mem_map.2 ⟨y,hy,rfl⟩),by rw[hx];exact vz (fun p hp=>r2 p (by rw[←hl,←List.flatMap_def];exact hp)),by simpa using u1,by rw[hlen];exact u2,by rw[hlen];simpa using u3,by simpa using u4⟩
   ·rw[e]at hx
    simp only[den,e1,dr]at hx
    cases hx
    simp[den,bx,Ren.set_self,AI,hlen,q6]
noncomputable def PE (t Ty sz:Nat) (α:Type) (enc:α→List PL) (S:SL) (M:T) (nx:Nat) (K:SL→T→Nat→Bool):Bool:=Ys (bH t S) Ty sz α enc M nx fun v M nx=>K (.cons t v S) M nx
theorem TA {N:Nat} {S:SL} {a:Act} (s:SR E ρ N S a) (h:Sim E ρ G F M nx w) {t Ty sz:Nat} {α:Type} {enc:α→List PL} {K:SL→T→Nat→Bool} (hk:PE t Ty sz α enc S M nx K=true):
  ∃S' M' nx' ρ',ρ.Le ρ'∧SR E ρ' N S' a∧Sim E ρ' G F M' nx' w∧K S' M' nx'=true:=by
 obtain⟨v',M',nx',ρ',hl,h1,h2,h3,h4⟩:=TB h hk
 refine⟨_,M',nx',ρ',hl,⟨s.size,s.defs,fun u=> ?_⟩,h1,h2⟩
 by_cases q:t=u
 ·subst q
  rw[fL]
  obtain⟨x,q1,q2⟩:=(s.at_ t).resolve_left h4
  exact .inr ⟨x,h3 x q1,q2⟩
 ·rw[jV _ _ q]
  exact(s.mono hl).at_ u
theorem Sim.swap (h:Sim E ρ G F M nx w) {i q r:Nat} {g:Bool} {Ty sz:Nat} {els:List (List AV)} {el:List AV} {v v':AV} (hi:M.get i=some (.blk g Ty sz els)) (hq:els[q]?=some el) (hr:el[r]?=some v)
  (hv:∀x,den E ρ v=some x→den E ρ v'=some x) {M':T} (h1:M'.get i=some (.blk g Ty sz (els.take q++[el.take r++[v']++el.drop (r+1)]++els.drop (q+1)))) (h2:∀m,m≠i→M'.get m=M.get m):Sim E ρ G F M' nx w:=by
 obtain⟨c,hh,hob,hinj⟩:=h.ex
 have hle1:=(List.getElem?_eq_some_iff.1 hq).1
 have hle2:=(List.getElem?_eq_some_iff.1 hr).1
 have old:∀m o,M'.get m=some o→∃o2,M.get m=some o2∧∀e,cG e o=cG e o2:=fun m o hm=>by
  by_cases q1:m=i
  ·subst q1
   rw[h1]at hm;cases hm
   exact⟨_,hi,fun e=>rfl⟩
  ·rw[h2 m q1]at hm
   exact⟨o,hm,fun e=>rfl⟩
 refine⟨⟨c,hh,fun m o hm=> ?_,fun m k e f o o' hm hk he hf hb1 hb2 hb=> ?_⟩,h.mem,h.fresh⟩
 ·by_cases q1:m=i
  ·subst q1
   rw[h1]at hm;cases hm
   obtain⟨e,a1,⟨b1,ob,b2,b3⟩|⟨b1,b2⟩⟩:=hob m _ hi
   ·refine⟨e,a1,.inl ⟨rfl,ob,b2,?_⟩⟩
    obtain⟨c1,c2,arr,xs,c3,c4,c5⟩:=b3
    have hel:∀l∈els.take q++[el.take r++[v']++el.drop (r+1)]++els.drop (q+1),l.length=sz:=by
     intro l hl
     simp only[List.mem_append,List.mem_singleton]at hl
     have:=c1 el (akp hq)
     rcases hl with(hl|rfl)|hl
     ·exact c1 l (List.mem_of_mem_take hl)
     ·simp only[akk,List.length_take,List.length_drop,List.length_singleton];omega
     ·exact c1 l (List.mem_of_mem_drop hl)
    have hlen:(els.take q++[el.take r++[v']++el.drop (r+1)]++els.drop (q+1)).length=els.length:=by
     simp only[akk,List.length_take,List.length_drop,List.length_singleton];omega
    have e1:els=els.take q++[el]++els.drop (q+1):=by
     rw[List.append_assoc,List.singleton_append]
     have:=List.take_append_drop q els
     rw[List.drop_eq_getElem_cons hle1]at this
     rw[←(List.getElem?_eq_some_iff.1 hq).2];exact this.symm
    have e2:el=el.take r++[v]++el.drop (r+1):=by
     rw[List.append_assoc,List.singleton_append]
     have:=List.take_append_drop r el
     rw[List.drop_eq_getElem_cons hle2]at this
     rw[←(List.getElem?_eq_some_iff.1 hr).2];exact this.symm
    have hd:aO E ρ (els.take q++[el.take r++[v']++el.drop (r+1)]++els.drop (q+1)).flatten=some xs:=by
     rw[e1]at c4
     simp only[List.flatten_append,akq,List.flatten_nil,List.append_nil]at c4 ⊢
     obtain⟨y1,z1,d1,d2,rfl⟩:=eJ c4
     obtain⟨y2,z2,d3,d4,rfl⟩:=eJ d1
     rw[e2]at d4
     obtain⟨y3,z3,d5,d6,rfl⟩:=eJ d4
     obtain⟨y4,z4,d7,d8,rfl⟩:=eJ d5
     obtain⟨x,_,d9,d10,rfl⟩:=cA d8
     refine eu (eu d3 (eu (eu d7 ?_) d6)) d2
     exact mo (hv x d9) d10
    refine⟨hel,c2,arr,xs,c3,hd,?_⟩
    rw[hlen];exact c5
   ·cases b1
  ·rw[h2 m q1]at hm
   exact hob m o hm
 ·obtain⟨o2,f1,f2⟩:=old m o hm
  obtain⟨o3,f3,f4⟩:=old k o' hk
  rw[f2]at hb1
  rw[f4]at hb2
  exact hinj m k e f o2 o3 f1 f3 he hf hb1 hb2 hb
noncomputable def adk (i q r Ty sz:Nat) (α:Type) (enc:α→List PL) (M:T) (nx:Nat) (K:T→Nat→Bool):Bool:=
 dE M i fun _ _ _ els=>dh (dV els q) fun el=>dh (dV el r) fun v=>br (eG v) (K M nx) (Ys v Ty sz α enc M nx fun v' M' nx'=>dE M' i fun g T2 s2 els=>dh (dV els q) fun el'=>dh (dV el' r) fun v2=>ac (aF (v2=v))
  (fm el' r [v'] fun e2=>fm els q [e2] fun els2=>T.set bI M' i (some (.blk g T2 s2 els2)) fun M2=>K M2 nx'))
theorem acs (h:Sim E ρ G F M nx w) {i q r Ty sz:Nat} {α:Type} {enc:α→List PL} {K:T→Nat→Bool} (hk:adk i q r Ty sz α enc M nx K=true):
  ∃M' nx' ρ',ρ.Le ρ'∧Sim E ρ' G F M' nx' w∧K M' nx'=true:=by
 obtain⟨g,T1,s1,els,h1,hk⟩:=ch hk
 obtain⟨el,h2,hk⟩:=bF hk
 obtain⟨v,h3,hk⟩:=bF hk
 rcases bk hk with⟨-,hk⟩|⟨-,hk⟩
 ·exact⟨M,nx,ρ,Ren.Le.refl _,h,hk⟩
 obtain⟨v',M',nx',ρ',le,sm,hk,hv,hb⟩:=TB h hk
 obtain⟨g,T2,s2,els2,h4,hk⟩:=ch hk
 obtain⟨el2,h5,hk⟩:=bF hk
 obtain⟨v2,h6,hk⟩:=bF hk
 obtain⟨hvv,hk2⟩:=ae hk
 obtain⟨hk3,l1⟩:=du hk2
 obtain⟨hk4,l2⟩:=du hk3
 obtain⟨M2,hk5,g1,g2⟩:=T.set_ok _ _ _ _ _ hk4
 clear hk hk2 hk3 hk4
 subst hvv
 rw[eF]at h2 h3 h5 h6
 refine⟨M2,nx',ρ',le,sm.swap h4 h5 h6 (fun x hx=> ?_) g1 g2,hk5⟩
 -- the cell's value is known already in the old numbers
 obtain⟨e,arr,xs,e1,e2,e3,e4,e5,e6,e7,e8,e9⟩:=h.cellsAt h1
 have hmem:v2∈els.flatten:=List.mem_flatten.2 ⟨el,akp h2,akp h3⟩
 obtain⟨k,hk2⟩:=List.mem_iff_getElem?.1 hmem
 obtain⟨y,y1,_⟩:=oz e3 hk2
 have:=gA le v2 y y1
 rw[this]at hx
 cases hx
 exact hv _ y1
noncomputable def adf (i q r:Nat) (M:T) (K:T→Bool):Bool:=
 dE M i fun _ _ _ els=>dh (dV els q) fun el=>dh (dV el r) fun v=>Yb v M fun u M'=>dE M' i fun g T2 s2 els=>dh (dV els q) fun el'=>dh (dV el' r) fun v2=>ac (aF (v2=v))
  (fm el' r [u] fun e2=>fm els q [e2] fun els2=>T.set bI M' i (some (.blk g T2 s2 els2)) K)
theorem ab3 (h:Sim E ρ G F M nx w) {i q r:Nat} {K:T→Bool} (hk:adf i q r M K=true):
  ∃E' M',GT ρ E E'∧E'.at_=E.at_∧Sim E' ρ G F M' nx w∧K M'=true:=by
 obtain⟨g,T1,s1,els,h1,hk⟩:=ch hk
 obtain⟨el,h2,hk⟩:=bF hk
 obtain⟨v,h3,hk⟩:=bF hk
 rw[eF]at h2 h3
 obtain⟨e,arr,xs,e1,e2,e3,e4,e5,e6,e7,e8,e9⟩:=h.cellsAt h1
 have hmem:v∈els.flatten:=List.mem_flatten.2 ⟨el,akp h2,akp h3⟩
 obtain⟨k,hk2⟩:=List.mem_iff_getElem?.1 hmem
 obtain⟨y,y1,_⟩:=oz e3 hk2
 obtain⟨E1,M1,u,f1,f2,f3,f4,hk3⟩:=Wl h y1 hk
 obtain⟨g,T2,s2,els2,h4,hk4⟩:=ch hk3
 obtain⟨el2,h5,hk5⟩:=bF hk4
 obtain⟨v2,h6,hk6⟩:=bF hk5
 obtain⟨hvv,hk7⟩:=ae hk6
 obtain⟨hk8,l1⟩:=du hk7
 obtain⟨hk9,l2⟩:=du hk8
 obtain⟨M2,hk10,g1,g2⟩:=T.set_ok _ _ _ _ _ hk9
 subst hvv
 rw[eF]at h5 h6
 refine⟨E1,M2,f1,f2,f3.swap h4 h5 h6 (fun x hx=> ?_) g1 g2,hk10⟩
 rw[ox f1 _ _ y1]at hx
 cases hx
 exact gA (ρ:=fun _=>none) (fun _ _ q=>by cases q) u y f4
noncomputable def SI (v:AV) (K:AV→Bool):Bool:=AV.casesOn v (K .bad) (fun k z=>K (.int k z)) (fun b=>K (.bool b)) (fun l=>K (.str l)) (fun i o=>K (.ptr i o)) (fun i o n c=>K (.sl i o n c)) (fun i=>K (.map i)) (K .nilP) (K .nilS) (K .nilM) (K .nilF) (K .nilI) (fun t v=>K (.iface t v)) (fun f c=>K (.fn f c)) (fun i=>K (.yl i)) (fun l=>K (.agg l)) (fun l=>K (.tup l)) (fun i=>K (.any i)) (fun s=>K (.sy s))
theorem Mf {v:AV} {K:AV→Bool} (h:SI v K=true):K v=true:=by
 cases v<;>exact h
noncomputable def YY (v:AV):AV:=AV.casesOn v .bad (fun k z=>.sy (.int k z)) (fun b=>.sy (.bool (b=true))) (fun l=>.sy (.str (l.map UInt8.ofNat))) (fun i o=>.ptr i o) (fun i o n c=>.sl i o n c) (fun i=>.map i) .nilP .nilS .nilM .nilF .nilI (fun t v=>.iface t v) (fun f c=>.fn f c) (fun i=>.yl i) (fun l=>.agg l) (fun l=>.tup l) (fun i=>.any i) (fun s=>.sy s)
theorem Lt {v:AV} {x:Value} (h:den E ρ v=some x):den E ρ (YY v)=some x:=by
 cases v<;>first|exact h|skip
 case bool b=>
  simp only[den]at h
  cases h
  show bx E ρ (.bool (b=true))=_
  simp only[bx,zM]
noncomputable def upX (t:Nat) (S:SL) (K:SL→Bool):Bool:=SI (YY (bH t S)) fun v=>K (.cons t v S)
theorem agd {N:Nat} {S:SL} {a:Act} (s:SR E ρ N S a) {t:Nat} {K:SL→Bool} (hk:upX t S K=true):∃S',SR E ρ N S' a∧K S'=true:=by
 have hk:=Mf hk
 refine⟨_,⟨s.size,s.defs,fun u=> ?_⟩,hk⟩
 by_cases q:t=u
 ·subst q
  rw[fL]
  rcases s.at_ t with q|⟨x,q1,q2⟩
  ·rw[q];exact .inl rfl
  ·exact .inr ⟨x,Lt q1,q2⟩
 ·rw[jV _ _ q]
  exact s.at_ u
noncomputable def aj5 (M:T) (i q r:Nat):Bool:=Option.casesOn (M.get i) false fun ob=>AObj.casesOn ob (fun _ _ _ els=>Option.casesOn (dV els q) false fun el=>Option.casesOn (dV el r) false fun _=>true) (fun _ _=>false) (fun _ _ _ _=>false) false (fun _ _ _ _ _=>false) (fun _ _ _ _ _ _ _=>false)
noncomputable def agc (i q r:Nat) (M:T) (K:T→Bool):Bool:=br (aj5 M i q r) (dE M i fun g Ty sz els=>dh (dV els q) fun el=>dh (dV el r) fun v=>SI (YY v) fun v'=>fm el r [v'] fun e2=>fm els q [e2] fun els2=>T.set bI M i (some (.blk g Ty sz els2)) K) (K M)
theorem adW (h:Sim E ρ G F M nx w) {i q r:Nat} {K:T→Bool} (hk:agc i q r M K=true):∃M',Sim E ρ G F M' nx w∧K M'=true:=by
 rcases bk hk with⟨-,hk⟩|⟨-,hk⟩
 case inr=>exact⟨M,h,hk⟩
 obtain⟨g,Ty,sz,els,h1,hk⟩:=ch hk
 obtain⟨el,h2,hk⟩:=bF hk
 obtain⟨v,h3,hk⟩:=bF hk
 have hk:=Mf hk
 obtain⟨hk,l1⟩:=du hk
 obtain⟨hk,l2⟩:=du hk
 obtain⟨M2,hk,g1,g2⟩:=T.set_ok _ _ _ _ _ hk
 rw[eF]at h2 h3
 exact⟨M2,h.swap h1 h2 h3 (fun x hx=>Lt hx) g1 g2,hk⟩
theorem Sim.swapM (h:Sim E ρ G F M nx w) {i:Nat} {es es':List (AV×AV×Nat)} {cl:Nat} (hi:M.get i=some (.map es cl)) (hv:∀ms,bL E ρ es=some ms→bL E ρ es'=some ms) {M':T} (h1:M'.get i=some (.map es' cl)) (h2:∀m,m≠i→M'.get m=M.get m):Sim E ρ G F M' nx w:=by
 obtain⟨c,hh,hob,hinj⟩:=h.ex
 have old:∀m o,M'.get m=some o→∃o2,M.get m=some o2∧∀e,cG e o=cG e o2:=fun m o hm=>by
  by_cases q1:m=i
  ·subst q1
   rw[h1]at hm;cases hm
   exact⟨_,hi,fun e=>rfl⟩
  ·rw[h2 m q1]at hm
   exact⟨o,hm,fun e=>rfl⟩
 refine⟨⟨c,hh,fun m o hm=> ?_,fun m k e f o o' hm hk he hf hb1 hb2 hb=> ?_⟩,h.mem,h.fresh⟩
 ·by_cases q1:m=i
  ·subst q1
   rw[h1]at hm;cases hm
   obtain⟨e,a1,⟨b1,ob,b2,b3⟩|⟨b1,b2⟩⟩:=hob m _ hi
   ·obtain⟨ms,c1,c2⟩:=b3
    exact⟨e,a1,.inl ⟨rfl,ob,b2,ms,hv ms c1,c2⟩⟩
   ·cases b1
  ·rw[h2 m q1]at hm
   exact hob m o hm
 ·obtain⟨o2,f1,f2⟩:=old m o hm
  obtain⟨o3,f3,f4⟩:=old k o' hk
  rw[f2]at hb1
  rw[f4]at hb2
  exact hinj m k e f o2 o3 f1 f3 he hf hb1 hb2 hb
noncomputable def upE (es:List (AV×AV×Nat)) (K:List (AV×AV×Nat)→Bool):Bool:=List.rec (motive:=fun _=>(List (AV×AV×Nat)→Bool)→Bool) (fun K=>K []) (fun e _ ih K=>SI (YY e.2.1) fun v=>ih fun l=>K ((e.1,v,e.2.2)::l)) es K
theorem YZ:∀{es:List (AV×AV×Nat)} {K:List (AV×AV×Nat)→Bool},upE es K=true→∃es',K es'=true∧∀ms,bL E ρ es=some ms→bL E ρ es'=some ms
 |[],K,h=>⟨[],h,fun ms q=>q⟩
 |(k,v,b)::es,K,h=>by
  have h1:=Mf (show SI (YY v) (fun v=>upE es fun l=>K ((k,v,b)::l))=true from h)
  obtain⟨es',h2,h3⟩:=YZ h1
  refine⟨_,h2,fun ms q=> ?_⟩
  obtain⟨x,y,ms',q1,q2,q3,rfl⟩:=dG q
  simp only[bL,q1,Lt q2,h3 _ q3]
noncomputable def agb (i:Nat) (M:T) (K:T→Bool):Bool:=ry M i fun es cl=>upE es fun es'=>T.set bI M i (some (.map es' cl)) K
theorem adU (h:Sim E ρ G F M nx w) {i:Nat} {K:T→Bool} (hk:agb i M K=true):∃M',Sim E ρ G F M' nx w∧K M'=true:=by
 obtain⟨es,cl,h1,hk⟩:=jt hk
 obtain⟨es',hk,h2⟩:=YZ (E:=E) (ρ:=ρ) hk
 obtain⟨M2,hk,g1,g2⟩:=T.set_ok _ _ _ _ _ hk
 exact⟨M2,h.swapM h1 h2 g1 g2,hk⟩
noncomputable def aij (i:Nat) (M:T) (K:T→Bool):Bool:=dE M i fun g Ty sz _=>Bool.rec false (T.set bI M i (some (.blk true Ty sz [])) K) g
theorem aeA (h:Sim E ρ G F M nx w) {i:Nat} {K:T→Bool} (hk:aij i M K=true):∃M',Sim E ρ G F M' nx w∧K M'=true:=by
 obtain⟨g,Ty,sz,els,h1,hk1⟩:=ch hk
 cases g with
 |false=>cases hk1
 |true=>
  obtain⟨M2,hk2,g1,g2⟩:=T.set_ok _ _ _ _ _ hk1
  obtain⟨e,ob,a1,a2,a3⟩:=h.obj h1
  obtain⟨b1,b2,arr,xs,b3,b4,b5⟩:=a3
  obtain⟨c1,c2,c3,c4⟩:=b5
  have hr:ORel E ρ e (.blk true Ty sz []) ob:=⟨by simp,b2,arr,[],b3,by simp[aO],c1,by simp,by simp,c4⟩
  exact⟨M2,h.turn h1 a1 rfl rfl rfl (fun _ _ _=>rfl) a2 hr g1 g2,hk2⟩
theorem Sim.swapK (h:Sim E ρ G F M nx w) {i:Nat} {es:List (AV×AV×Nat)} {cl:Nat} {ak av:Bool} {α:Type} {l:List α} {kf vf:α→List PL} (hi:M.get i=some (.map es cl)) (hs:es.map (fun e=>(e.1,e.2.1))=l.map (fun x=>(dt ak (kf x),dt av (vf x)))) {M':T} (h1:M'.get i=some (.kmap true ak av α l kf vf)) (h2:∀m,m≠i→M'.get m=M.get m):Sim E ρ G F M' nx w:=by
 obtain⟨c,hh,hob,hinj⟩:=h.ex
 have old:∀m o,M'.get m=some o→∃o2,M.get m=some o2∧∀e,cG e o=cG e o2:=fun m o hm=>by
  by_cases q1:m=i
  ·subst q1
   rw[h1]at hm;cases hm
   exact⟨_,hi,fun e=>rfl⟩
  ·rw[h2 m q1]at hm
   exact⟨o,hm,fun e=>rfl⟩
 refine⟨⟨c,hh,fun m o hm=> ?_,fun m k e f o o' hm hk he hf hb1 hb2 hb=> ?_⟩,h.mem,h.fresh⟩
 ·by_cases q1:m=i
  ·subst q1
   rw[h1]at hm;cases hm
   obtain⟨e,a1,⟨b1,ob,b2,b3⟩|⟨b1,b2⟩⟩:=hob m _ hi
   ·obtain⟨ms,c1,c2⟩:=b3
    exact⟨e,a1,.inl ⟨rfl,ob,b2,es,cl,ms,hs,c1,c2⟩⟩
   ·cases b1
  ·rw[h2 m q1]at hm
   exact hob m o hm
 ·obtain⟨o2,f1,f2⟩:=old m o hm
  obtain⟨o3,f3,f4⟩:=old k o' hk
  rw[f2]at hb1
  rw[f4]at hb2
  exact hinj m k e f o2 o3 f1 f3 he hf hb1 hb2 hb
noncomputable def kbX (i:Nat) (ak av:Bool) (α:Type) (kf vf:α→List PL) (M:T) (K:T→Bool):Bool:=br (isK M i) (K M) (ry M i fun es _=>ax fun l:List α=>ac (aF (es.map (fun e=>(e.1,e.2.1))=l.map (fun x=>(dt ak (kf x),dt av (vf x))))) (T.set bI M i (some (.kmap true ak av α l kf vf)) K))
theorem ZE (h:Sim E ρ G F M nx w) {i:Nat} {ak av:Bool} {α:Type} {kf vf:α→List PL} {K:T→Bool} (hk:kbX i ak av α kf vf M K=true):∃M',Sim E ρ G F M' nx w∧K M'=true:=by
 rcases bk hk with⟨_,hk⟩|⟨_,hk⟩
 ·exact⟨M,h,hk⟩
 obtain⟨es,cl,h1,hk⟩:=jt hk
 obtain⟨l,hk⟩:=bJ hk
 obtain⟨hs,hk⟩:=ae hk
 obtain⟨M2,hk,g1,g2⟩:=T.set_ok _ _ _ _ _ hk
 exact⟨M2,h.swapK h1 hs g1 g2,hk⟩
theorem Sim.reobjE (h:Sim E ρ G F M nx w) {i:Nat} {o o':AObj} {e0:eD} (hi:M.get i=some o) (he0:ρ i=some e0) (hB:cG e0 o=true) (hB':cG e0 o'=true) (hr:∀ob,ORel E ρ e0 o ob→ORel E ρ e0 o' ob) {M':T} (h1:M'.get i=some o') (h2:∀m,m≠i→M'.get m=M.get m):Sim E ρ G F M' nx w:=by
 obtain⟨c,hh,hob,hinj⟩:=h.ex
 have old:∀m o2 e,M'.get m=some o2→ρ m=some e→∃o3,M.get m=some o3∧cG e o2=cG e o3:=fun m o2 e hm he=>by
  by_cases q1:m=i
  ·subst q1
   rw[h1]at hm;cases hm
   rw[he0]at he;cases he
   exact⟨_,hi,by rw[hB,hB']⟩
  ·rw[h2 m q1]at hm
   exact⟨o2,hm,rfl⟩
 refine⟨⟨c,hh,fun m o2 hm=> ?_,fun m k e f o2 o3 hm hk he hf hb1 hb2 hb=> ?_⟩,h.mem,h.fresh⟩
 ·by_cases q1:m=i
  ·subst q1
   rw[h1]at hm;cases hm
   obtain⟨e,a1,⟨b1,ob,b2,b3⟩|⟨b1,b2⟩⟩:=hob m _ hi
   ·rw[he0]at a1;cases a1
    exact⟨_,he0,.inl ⟨hB',ob,b2,hr ob b3⟩⟩
   ·rw[he0]at a1;cases a1
    rw[hB]at b1;cases b1
  ·rw[h2 m q1]at hm
   exact hob m o2 hm
 ·obtain⟨o4,f1,f2⟩:=old m o2 e hm he
  obtain⟨o5,f3,f4⟩:=old k o3 f hk hf
  rw[f2]at hb1
  rw[f4]at hb2
  exact hinj m k e f o4 o5 f1 f3 he hf hb1 hb2 hb
theorem Sim.nilObj (h:Sim E ρ G F M nx w) {M':T} {o:AObj} (hB:cG ⟨0,0⟩ o=false) (hN:Jv o) (h1:M'.get nx=some o) (h2:∀m,m≠nx→M'.get m=M.get m):Sim E (ρ.set nx ⟨0,0⟩) G F M' (nx+1) w:=by
 have h0:=h.fresh nx (akz _)
 have hle:=Ren.le_set (ρ:=ρ) ⟨0,0⟩ h0
 obtain⟨c,hh,hob,hinj⟩:=h.ex
 refine⟨⟨c,hh,fun j o hj=> ?_,fun j k e f o o' hj hk he hf hb1 hb2 hb=> ?_⟩,h.mem,fun j hj=> ?_⟩
 ·by_cases q:j=nx
  ·subst q
   rw[h1]at hj;cases hj
   exact⟨_,Ren.set_self _ _ _,.inr ⟨hB,hN⟩⟩
  ·rw[h2 j q]at hj
   obtain⟨e,a1,⟨q1,ob,q2,q3⟩|q1⟩:=hob j o hj
   ·exact⟨e,hle _ _ a1,.inl ⟨q1,ob,q2,q3.mono hle⟩⟩
   ·exact⟨e,hle _ _ a1,.inr q1⟩
 ·have nb:∀m e o,M'.get m=some o→ρ.set nx ⟨0,0⟩ m=some e→cG e o=true→m≠nx:=fun m e o q1 q2 q3 q4=>by
   subst q4
   rw[h1]at q1;cases q1
   rw[Ren.set_self]at q2;cases q2
   rw[hB]at q3;cases q3
  have nj:=nb j e o hj he hb1
  have nk:=nb k f o' hk hf hb2
  rw[h2 j nj]at hj
  rw[h2 k nk]at hk
  rw[Ren.set_ne _ nj]at he
  rw[Ren.set_ne _ nk]at hf
  exact hinj j k e f o o' hj hk he hf hb1 hb2 hb
 ·rw[Ren.set_ne _ (by omega)]
  exact h.fresh j (by omega)
noncomputable def ZC (i q r:Nat) (M:T) (K:T→Bool):Bool:=dE M i fun g Ty sz els=>dh (dV els q) fun el=>dh (dV el r) fun v=>PF v (fun j=>yG M j fun sure ak av α l kf vf=>br sure false
  (ac (br (aF (l=[])) (fm el r [.nilM] fun e2=>fm els q [e2] fun els2=>T.set bI M i (some (.blk g Ty sz els2)) K) true)
   (T.set bI M j (some (.kmap true ak av α l kf vf)) fun M1=>dE M1 i fun g Ty sz els=>dh (dV els q) fun el=>dh (dV el r) fun v2=>ac (aF (v2=v)) (fm el r [.map j] fun e2=>fm els q [e2] fun els2=>T.set bI M1 i (some (.blk g Ty sz els2)) K)))) (K M)
theorem ZB (h:Sim E ρ G F M nx w) {i q r:Nat} {K:T→Bool} (hk:ZC i q r M K=true):∃M',Sim E ρ G F M' nx w∧K M'=true:=by
 obtain⟨g,Ty,sz,els,h1,hk⟩:=ch hk
 obtain⟨el,h2,hk⟩:=bF hk
 obtain⟨v,h3,hk⟩:=bF hk
 rw[eF]at h2 h3
 rcases TJ hk with⟨j,rfl,hk⟩|hk
 case inr=>exact⟨M,h,hk⟩
 obtain⟨sure,ak,av,α,l,kf,vf,hj,hk⟩:=sn hk
 rcases bk hk with⟨_,hk⟩|⟨hs,hk⟩
 ·cases hk
 subst hs
 obtain⟨k1,k2⟩:=aq hk
 obtain⟨e,h4,q5⟩:=h.objP hj
 rcases q5 with⟨b1,ob,b2,b3⟩|⟨b1,b2⟩
 ·have b1':(false|| !Nat.beq e.cap 0)=true:=b1
  have b4:Nat.beq e.cap 0=false:=by simpa using b1'
  obtain⟨M1,k3,s1,s2⟩:=T.set_ok _ _ _ _ _ k2
  obtain⟨g,Ty,sz,els,h1,hk⟩:=ch k3
  obtain⟨el,h2,hk⟩:=bF hk
  obtain⟨v2,h3,hk⟩:=bF hk
  rw[eF]at h2 h3
  obtain⟨hvv,hk3⟩:=ae hk
  subst hvv
  obtain⟨hk4,_⟩:=du hk3
  obtain⟨hk5,_⟩:=du hk4
  obtain⟨M2,hk6,g1,g2⟩:=T.set_ok _ _ _ _ _ hk5
  have hS:Sim E ρ G F M1 nx w:=h.reobjE (o':=.kmap true ak av α l kf vf) hj h4 b1 rfl (fun ob q=>q) s1 s2
  refine⟨M2,hS.swap h1 h2 h3 (fun x hx=> ?_) g1 g2,hk6⟩
  simp only[den,bx,h4,b4,cond_false]at hx ⊢
  exact hx
 ·have b1':(false|| !Nat.beq e.cap 0)=false:=b1
  have b4:Nat.beq e.cap 0=true:=by simpa using b1'
  rw[prB_true.2 b2.2]at k1
  obtain⟨hk,_⟩:=du (show(fm el r [.nilM] fun e2=>fm els q [e2] fun els2=>T.set bI M i (some (.blk g Ty sz els2)) K)=true from k1)
  obtain⟨hk,_⟩:=du hk
  obtain⟨M2,hk,g1,g2⟩:=T.set_ok _ _ _ _ _ hk
  refine⟨M2,h.swap h1 h2 h3 (fun x hx=> ?_) g1 g2,hk⟩
  simp only[den,bx,h4,b4,cond_true]at hx ⊢
  exact hx
noncomputable def ade (v:AV) (ak av:Bool) (α:Type) (kf vf:α→List PL) (M:T) (nx:Nat) (K:AV→T→Nat→Bool):Bool:=wK v (T.set bI M nx (some (.kmap false ak av α [] kf vf)) fun M'=>fN (Nat.succ nx) fun q=>K (.sy (.kmp nx)) M' q)
 (fun j=>kbX j ak av α kf vf M fun M1=>yG M1 j fun sure ak av α l kf vf=>ac sure (T.set bI M1 j none fun M2=>T.set bI M2 nx (some (.kmap false ak av α l kf vf)) fun M'=>fN (Nat.succ nx) fun q=>K (.sy (.kmp nx)) M' q))
theorem ab0 (h:Sim E ρ G F M nx w) {v:AV} {ak av:Bool} {α:Type} {kf vf:α→List PL} {K:AV→T→Nat→Bool} (hk:ade v ak av α kf vf M nx K=true):
  ∃v' M' nx' ρ',ρ.Le ρ'∧Sim E ρ' G F M' nx' w∧K v' M' nx'=true∧(∀x,den E ρ v=some x→den E ρ' v'=some x):=by
 rcases nC hk with⟨rfl,g⟩|⟨j,rfl,g⟩
 ·obtain⟨M',k1,s1,s2⟩:=T.set_ok _ _ _ _ _ g
  rw[bW]at k1
  refine⟨_,M',nx+1,_,Ren.le_set _ (h.fresh nx (akz _)),h.nilObj (o:=.kmap false ak av α [] kf vf) rfl ⟨rfl,rfl⟩ s1 s2,k1,fun x hx=> ?_⟩
  cases hx
  simp[den,bx,Ren.set_self]
 ·obtain⟨M1,hS,k1⟩:=ZE h g
  have k1:=sn k1
  obtain⟨sure,ak2,av2,α2,l2,kf2,vf2,hj,k2⟩:=k1
  obtain⟨hs,k3⟩:=aq k2
  subst hs
  obtain⟨e,ob,h4,_,_⟩:=hS.obj hj
  obtain⟨M2,k4,s1,s2⟩:=T.set_ok _ _ _ _ _ k3
  obtain⟨M3,k5,s3,s4⟩:=T.set_ok _ _ _ _ _ k4
  rw[bW]at k5
  have h0:=hS.fresh nx (akz _)
  have hne:j≠nx:=fun q=>by rw[q,h0]at h4;cases h4
  refine⟨_,M3,nx+1,_,Ren.le_set (ρ:=ρ) ⟨e.b,1⟩ h0,hS.rekey (o':=.kmap false ak2 av2 α2 l2 kf2 vf2) (e':=⟨e.b,1⟩) hj h4 rfl rfl rfl (fun ob q=>q) s3 (fun m a1 a2=>by rw[s4 m a1,s2 m a2]) (by rw[s4 j hne,s1]),k5,fun x hx=> ?_⟩
  simp only[den,h4]at hx
  cases hx
  simp only[den,bx,Ren.set_self]
  rfl
noncomputable def ZA (i q r:Nat) (ak av:Bool) (α:Type) (kf vf:α→List PL) (M:T) (nx:Nat) (K:T→Nat→Bool):Bool:=
 dE M i fun _ _ _ els=>dh (dV els q) fun el=>dh (dV el r) fun v=>br (eG v) (K M nx) (ade v ak av α kf vf M nx fun v' M' nx'=>dE M' i fun g T2 s2 els=>dh (dV els q) fun el'=>dh (dV el' r) fun v2=>ac (aF (v2=v))
  (fm el' r [v'] fun e2=>fm els q [e2] fun els2=>T.set bI M' i (some (.blk g T2 s2 els2)) fun M2=>K M2 nx'))
theorem Zz (h:Sim E ρ G F M nx w) {i q r:Nat} {ak av:Bool} {α:Type} {kf vf:α→List PL} {K:T→Nat→Bool} (hk:ZA i q r ak av α kf vf M nx K=true):
  ∃M' nx' ρ',ρ.Le ρ'∧Sim E ρ' G F M' nx' w∧K M' nx'=true:=by
 obtain⟨g,T1,s1,els,h1,hk⟩:=ch hk
 obtain⟨el,h2,hk⟩:=bF hk
 obtain⟨v,h3,hk⟩:=bF hk
 rcases bk hk with⟨-,hk⟩|⟨-,hk⟩
 ·exact⟨M,nx,ρ,Ren.Le.refl _,h,hk⟩
 obtain⟨v',M',nx',ρ',le,sm,hk,hv⟩:=ab0 h hk
 obtain⟨g,T2,s2,els2,h4,hk⟩:=ch hk
 obtain⟨el2,h5,hk⟩:=bF hk
 obtain⟨v2,h6,hk⟩:=bF hk
 obtain⟨hvv,hk2⟩:=ae hk
 obtain⟨hk3,l1⟩:=du hk2
 obtain⟨hk4,l2⟩:=du hk3
 obtain⟨M2,hk5,g1,g2⟩:=T.set_ok _ _ _ _ _ hk4
 clear hk hk2 hk3 hk4
 subst hvv
 rw[eF]at h2 h3 h5 h6
 refine⟨M2,nx',ρ',le,sm.swap h4 h5 h6 (fun x hx=> ?_) g1 g2,hk5⟩
 obtain⟨e,arr,xs,e1,e2,e3,e4,e5,e6,e7,e8,e9⟩:=h.cellsAt h1
 have hmem:v2∈els.flatten:=List.mem_flatten.2 ⟨el,akp h2,akp h3⟩
 obtain⟨k,hk2⟩:=List.mem_iff_getElem?.1 hmem
 obtain⟨y,y1,_⟩:=oz e3 hk2
 have:=gA le v2 y y1
 rw[this]at hx
 cases hx
 exact hv _ y1
noncomputable def ab9 (t n:Nat) (S:SL) (K:SL→Bool):Bool:=AV.casesOn (bH t S) false (fun _ _=>K S) (fun _=>false) (fun _=>false) (fun _ _=>false) (fun _ _ _ _=>false) (fun _=>false) false false false false false (fun _ _=>false) (fun _ _=>false) (fun _=>false) (fun _=>false) (fun _=>false) (fun _=>false)
 (fun s=>SY.casesOn s (fun k z=>xT n z (fun j=>fN j fun j=>K (.cons t (.int k (Int.ofNat j)) S)) 0) (fun _=>false) (fun _=>false) (fun _ _ _ _ _=>false) (fun _ _ _=>false) (fun _ _=>false) (fun _ _ _ _ _ _=>false) (fun _ _ _ _=>false) (fun _ _ _=>false) (fun _=>false))
theorem afx {N:Nat} {S:SL} {a:Act} (s:SR E ρ N S a) {t n:Nat} {K:SL→Bool} (hk:ab9 t n S K=true):∃S',SR E ρ N S' a∧K S'=true:=by
 unfold ab9 at hk
 generalize e:bH t S=v at hk
 cases v<;>first|(cases hk;done)|exact⟨S,s,hk⟩|skip
 case sy s'=>
  cases s'<;>first|(cases hk;done)|skip
  case int k z=>
   obtain⟨j,h1,_,h2⟩:=tG (show xT n z (fun j=>fN j fun j=>K (.cons t (.int k (Int.ofNat j)) S)) 0=true from hk)
   rw[bW]at h2
   refine⟨_,⟨s.size,s.defs,fun u=> ?_⟩,h2⟩
   by_cases q:t=u
   ·subst q
    rw[fL]
    rcases s.at_ t with q|⟨x,q1,q2⟩
    ·rw[e]at q;cases q
    ·refine .inr ⟨x,?_,q2⟩
     rw[e]at q1
     rw[←q1,h1]
     rfl
   ·rw[jV _ _ q]
    exact s.at_ u
theorem Tp:∀{l:List AV} {i:Nat} {v v':AV} {ys:List Value},aO E ρ l=some ys→l[i]?=some v→(∀x,den E ρ v=some x→den E ρ v'=some x)→aO E ρ (l.take i++[v']++l.drop (i+1))=some ys
 |[],i,v,v',ys,h,hi,hv=>by simp at hi
 |u::l,0,v,v',ys,h,hi,hv=>by
  obtain⟨x,xs,h1,h2,rfl⟩:=cA h
  obtain rfl:u=v:=by simpa using hi
  have e:=hv x h1
  simp only[List.take_zero,List.nil_append,List.cons_append,List.drop_succ_cons,List.drop_zero,aO,e,h2]
 |u::l,i+1,v,v',ys,h,hi,hv=>by
  obtain⟨x,xs,h1,h2,rfl⟩:=cA h
  have:=Tp (i:=i) (v':=v') h2 (by simpa using hi) hv
  simp only[List.take_succ_cons,List.cons_append,List.drop_succ_cons,aO,h1,this]
noncomputable def Yc (t i lo n:Nat) (S:SL) (K:SL→Bool):Bool:=AV.casesOn (bH t S) false (fun _ _=>false) (fun _=>false) (fun _=>false) (fun _ _=>false) (fun _ _ _ _=>false) (fun _=>false) false false false false false (fun _ _=>false) (fun _ _=>false) (fun _=>false)
 (fun l=>dh (dV l i) fun v=>AV.casesOn v false (fun _ _=>K S) (fun _=>false) (fun _=>false) (fun _ _=>false) (fun _ _ _ _=>false) (fun _=>false) false false false false false (fun _ _=>false) (fun _ _=>false) (fun _=>false) (fun _=>false) (fun _=>false) (fun _=>false)
  (fun s=>SY.casesOn s (fun k z=>xT n z (fun j=>fN j fun j=>fm l i [.int k (Int.ofNat j)] fun l2=>K (.cons t (.agg l2) S)) lo) (fun _=>false) (fun _=>false) (fun _ _ _ _ _=>false) (fun _ _ _=>false) (fun _ _=>false) (fun _ _ _ _ _ _=>false) (fun _ _ _ _=>false) (fun _ _ _=>false) (fun _=>false)))
 (fun _=>false) (fun _=>false) (fun _=>false)
theorem ab7 {N:Nat} {S:SL} {a:Act} (s:SR E ρ N S a) {t i lo n:Nat} {K:SL→Bool} (hk:Yc t i lo n S K=true):∃S',SR E ρ N S' a∧K S'=true:=by
 unfold Yc at hk
 generalize e:bH t S=v at hk
 cases v<;>first|(cases hk;done)|skip
 case agg l=>
  obtain⟨u,hu,hk⟩:=bF hk
  rw[eF]at hu
  cases u<;>first|(cases hk;done)|exact⟨S,s,hk⟩|skip
  case sy s'=>
   cases s'<;>first|(cases hk;done)|skip
   case int k z=>
    obtain⟨j,h1,_,h2⟩:=tG (show xT n z (fun j=>fN j fun j=>fm l i [.int k (Int.ofNat j)] fun l2=>K (.cons t (.agg l2) S)) lo=true from hk)
    rw[bW]at h2
    obtain⟨h3,l1⟩:=du h2
    refine⟨_,⟨s.size,s.defs,fun u=> ?_⟩,h3⟩
    by_cases q:t=u
    ·subst q
     rw[fL]
     rcases s.at_ t with q|⟨x,q1,q2⟩
     ·rw[e]at q;cases q
     ·refine .inr ⟨x,?_,q2⟩
      rw[e]at q1
      unfold den at q1 ⊢
      split at q1
      ·rename_i cs hcs
       have:=Tp (v':=.int k (Int.ofNat j)) hcs hu (fun x hx=>by rw[←hx,h1];rfl)
       simp only[List.length_singleton]
       rw[this]
       exact q1
      ·cases q1
    ·rw[jV _ _ q]
     exact s.at_ u
noncomputable def ac3 (i q r:Nat) (M:T) (K:T→Bool):Bool:=dE M i fun g Ty sz els=>dh (dV els q) fun el=>dh (dV el r) fun v=>mE v fun s=>SY.casesOn s (fun _ _=>false) (fun _=>false) (fun _=>false) (fun _ _ _ _ _=>false) (fun _ _ _=>false)
 (fun j n=>iG M j fun _ sz' _ l _=>ac (aF (n=l.length)) (ah fun c:Nat=>fm el r [.sy (.psub j sz' 0 n 0 (some c))] fun e2=>fm els q [e2] fun els2=>T.set bI M i (some (.blk g Ty sz els2)) K)) (fun _ _ _ _ _ _=>K M) (fun _ _ _ _=>false) (fun _ _ _=>false) (fun _=>false)
theorem abq (h:Sim E ρ G F M nx w) {i q r:Nat} {K:T→Bool} (hk:ac3 i q r M K=true):∃M',Sim E ρ G F M' nx w∧K M'=true:=by
 obtain⟨g,Ty,sz,els,h1,hk1⟩:=ch hk
 obtain⟨el,h2,hk2⟩:=bF hk1
 obtain⟨v,h3,hk3⟩:=bF hk2
 obtain⟨s,rfl,hk4⟩:=eV hk3
 clear hk hk1 hk2 hk3
 rw[eF]at h2 h3
 cases s<;>first|(cases hk4;done)|exact⟨M,h,hk4⟩|skip
 case prow j n=>
  obtain⟨Ty',sz',α,l,enc,hi',g1⟩:=eO hk4
  obtain⟨hn,e2⟩:=ae g1
  obtain⟨f,q1,hsz,hrow⟩:=h.prow hi'
  obtain⟨e3,l1⟩:=du (au e2 (f.cap - 1))
  obtain⟨e4,l2⟩:=du e3
  obtain⟨M2,e5,g1,g2⟩:=T.set_ok _ _ _ _ _ e4
  refine⟨M2,h.swap h1 h2 h3 (v':=.sy (.psub j sz' 0 n 0 (some (f.cap - 1)))) (fun x hx=> ?_) g1 g2,e5⟩
  simp only[den,bx,q1]at hx ⊢
  rcases dY hx with⟨c0,rfl,rfl⟩|⟨c,qc,rfl⟩
  ·simp[sT,c0]
  ·rcases hrow with⟨q2,_⟩|⟨c',arr,q2,q3,r⟩
   ·omega
   ·have:=r.le
    simp only[sT,qc]
    rw[if_pos ⟨by omega,fun q e=>by cases e;omega⟩]
    simp
noncomputable def adh (i q r n:Nat) (M:T) (K:T→Bool):Bool:=dE M i fun g Ty sz els=>dh (dV els q) fun el=>dh (dV el r) fun v=>AV.casesOn v false (fun _ _=>K M) (fun _=>false) (fun _=>false) (fun _ _=>false) (fun _ _ _ _=>false) (fun _=>false) false false false false false (fun _ _=>false) (fun _ _=>false) (fun _=>false) (fun _=>false) (fun _=>false) (fun _=>false)
 (fun s=>SY.casesOn s (fun k z=>xT n z (fun j=>fN j fun j=>fm el r [.int k (Int.ofNat j)] fun e2=>fm els q [e2] fun els2=>T.set bI M i (some (.blk g Ty sz els2)) K) 0) (fun _=>false) (fun _=>false) (fun _ _ _ _ _=>false) (fun _ _ _=>false) (fun _ _=>false) (fun _ _ _ _ _ _=>false) (fun _ _ _ _=>false) (fun _ _ _=>false) (fun _=>false))
theorem ab8 (h:Sim E ρ G F M nx w) {i q r n:Nat} {K:T→Bool} (hk:adh i q r n M K=true):∃M',Sim E ρ G F M' nx w∧K M'=true:=by
 obtain⟨g,Ty,sz,els,h1,hk1⟩:=ch hk
 obtain⟨el,h2,hk2⟩:=bF hk1
 obtain⟨v,h3,hk3⟩:=bF hk2
 clear hk hk1 hk2
 rw[eF]at h2 h3
 cases v<;>first|(cases hk3;done)|exact⟨M,h,hk3⟩|skip
 case sy s'=>
  cases s'<;>first|(cases hk3;done)|skip
  case int k z=>
   obtain⟨j,e1,_,e2⟩:=tG (show xT n z (fun j=>fN j fun j=>fm el r [.int k (Int.ofNat j)] fun e2=>fm els q [e2] fun els2=>T.set bI M i (some (.blk g Ty sz els2)) K) 0=true from hk3)
   rw[bW]at e2
   obtain⟨e3,l1⟩:=du e2
   obtain⟨e4,l2⟩:=du e3
   obtain⟨M2,e5,g1,g2⟩:=T.set_ok _ _ _ _ _ e4
   refine⟨M2,h.swap h1 h2 h3 (v':=.int k (Int.ofNat j)) (fun x hx=> ?_) g1 g2,e5⟩
   rw[←hx,e1]
   rfl
noncomputable def Pz (n:Nat) (z:Int) (K:Nat→Bool) (D:Bool):Nat→Bool:=Nat.rec (fun _=>D) (fun _ ih k=>br (aF (z=Int.ofNat k)) (K k) (ih (Nat.succ k))) n
theorem SJ {z:Int} {K:Nat→Bool} {D:Bool}:∀{n k:Nat},Pz n z K D k=true→(∃j:Nat,z=(j:Int)∧K j=true)∨D=true
 |0,k,h=>.inr h
 |n+1,k,h=>by
  have h':br (aF (z=Int.ofNat k)) (K k) (Pz n z K D (Nat.succ k))=true:=h
  rcases iM h' with⟨q,g⟩|⟨_,g⟩
  ·exact .inl ⟨k,q,g⟩
  ·exact SJ g
noncomputable def adg (i q r n:Nat) (M:T) (K:T→Bool):Bool:=dE M i fun g Ty sz els=>dh (dV els q) fun el=>dh (dV el r) fun v=>AV.casesOn v false (fun _ _=>K M) (fun _=>false) (fun _=>false) (fun _ _=>false) (fun _ _ _ _=>false) (fun _=>false) false false false false false (fun _ _=>false) (fun _ _=>false) (fun _=>false) (fun _=>false) (fun _=>false) (fun _=>false)
 (fun s=>SY.casesOn s (fun k z=>Pz n z (fun j=>fN j fun j=>fm el r [.int k (Int.ofNat j)] fun e2=>fm els q [e2] fun els2=>T.set bI M i (some (.blk g Ty sz els2)) K) (K M) 0) (fun _=>false) (fun _=>false) (fun _ _ _ _ _=>false) (fun _ _ _=>false) (fun _ _=>false) (fun _ _ _ _ _ _=>false) (fun _ _ _ _=>false) (fun _ _ _=>false) (fun _=>false))
theorem ab6 (h:Sim E ρ G F M nx w) {i q r n:Nat} {K:T→Bool} (hk:adg i q r n M K=true):∃M',Sim E ρ G F M' nx w∧K M'=true:=by
 obtain⟨g,Ty,sz,els,h1,hk1⟩:=ch hk
 obtain⟨el,h2,hk2⟩:=bF hk1
 obtain⟨v,h3,hk3⟩:=bF hk2
 clear hk hk1 hk2
 rw[eF]at h2 h3
 cases v<;>first|(cases hk3;done)|exact⟨M,h,hk3⟩|skip
 case sy s'=>
  cases s'<;>first|(cases hk3;done)|skip
  case int k z=>
   rcases SJ (show Pz n z (fun j=>fN j fun j=>fm el r [.int k (Int.ofNat j)] fun e2=>fm els q [e2] fun els2=>T.set bI M i (some (.blk g Ty sz els2)) K) (K M) 0=true from hk3) with⟨j,e1,e2⟩|e2
   ·rw[bW]at e2
    obtain⟨e3,l1⟩:=du e2
    obtain⟨e4,l2⟩:=du e3
    obtain⟨M2,e5,g1,g2⟩:=T.set_ok _ _ _ _ _ e4
    refine⟨M2,h.swap h1 h2 h3 (v':=.int k (Int.ofNat j)) (fun x hx=> ?_) g1 g2,e5⟩
    rw[←hx,e1]
    rfl
   ·exact⟨M,h,e2⟩
end
inductive Adm:Type 1|can (k:Nat) (live:List Nat)|born (t Ty sz:Nat) (α:Type) (enc:α→List PL)|cell (i q r Ty sz:Nat) (α:Type) (enc:α→List PL)|up (t:Nat)|upc (i q r:Nat)|upm (i:Nat)|fix (t n:Nat)|frz (t:Nat)|fixc (i q r n:Nat)|frzc (i q r:Nat)|fixo (i q r n:Nat)|kb (i:Nat) (ak av:Bool) (α:Type) (kf vf:α→List PL)|die|kfork (i q r:Nat)|bors (t Ty sz:Nat) (α:Type) (enc:α→List PL)|kjoin (i q r:Nat) (ak av:Bool) (α:Type) (kf vf:α→List PL)|shr (i:Nat)|fixg (t i lo n:Nat)|tail (i q r:Nat)
noncomputable def eL (l:List Adm):SL→T→Nat→(SL→T→Nat→Bool)→Bool:=List.rec (fun S M nx K=>K S M nx) (fun a _ ih S M nx K=>Adm.casesOn a (fun k live=>ajv k live S M fun S M nx=>ih S M nx K) (fun t Ty sz α enc=>PE t Ty sz α enc S M nx fun S M nx=>ih S M nx K) (fun i q r Ty sz α enc=>adk i q r Ty sz α enc M nx fun M nx=>ih S M nx K) (fun t=>upX t S fun S=>ih S M nx K) (fun i q r=>agc i q r M fun M=>ih S M nx K) (fun i=>agb i M fun M=>ih S M nx K) (fun t n=>ab9 t n S fun S=>ih S M nx K) (fun t=>Yb (bH t S) M fun v M=>ih (.cons t v S) M nx K) (fun i q r n=>adh i q r n M fun M=>ih S M nx K) (fun i q r=>adf i q r M fun M=>ih S M nx K) (fun i q r n=>adg i q r n M fun M=>ih S M nx K) (fun i ak av α kf vf=>kbX i ak av α kf vf M fun M=>ih S M nx K) false (fun i q r=>ZC i q r M fun M=>ih S M nx K) (fun t Ty sz α enc=>br (eG (bH t S)) (ih S M nx K) (PE t Ty sz α enc S M nx fun S M nx=>ih S M nx K)) (fun i q r ak av α kf vf=>ZA i q r ak av α kf vf M nx fun M nx=>ih S M nx K) (fun i=>aij i M fun M=>ih S M nx K) (fun t i lo n=>Yc t i lo n S fun S=>ih S M nx K) (fun i q r=>ac3 i q r M fun M=>ih S M nx K)) l
noncomputable def Ev (l:List (Nat×List Adm)) (e:Nat):List Adm:=List.rec [] (fun p _ ih=>Bool.rec ih p.2 (Nat.beq p.1 e)) l
noncomputable def Xt (S:SL):Nat:=AV.casesOn (bH 0 S) 0 (fun _ z=>Int.casesOn z (fun n=>Nat.succ n) (fun _=>0)) (fun _=>0) (fun _=>0) (fun _ _=>0) (fun _ _ _ _=>0) (fun _=>0) 0 0 0 0 0 (fun _ _=>0) (fun _ _=>0) (fun _=>0) (fun _=>0) (fun _=>0) (fun _=>0) (fun _=>0)
noncomputable def ai8 (l:List (Nat×List Adm)) (e:Nat):Bool:=List.rec false (fun p _ ih=>Bool.rec ih true (Nat.beq p.1 e)) l
noncomputable def MO (l:List (Nat×List Adm)) (e:Nat) (S:SL):List Adm:=Bool.rec (Ev l e) (Ev l (Nat.add e (Nat.mul 1000 (Xt S)))) (ai8 l (Nat.add e (Nat.mul 1000 (Xt S))))
inductive XC:Type 1|bad|skip|ret|exit (k:Nat)|reg (draw:Bool) (n:Nat) (tr:XTr)|seq (x y:XC)|cond (p:XP) (x y:XC)|block (k:Nat) (c:XC)|loop (live:List Nat) (c:XC)|inv (j:Nat) (c:XC)|aft (x:XC) (l:List (Nat×List Adm))|pre (l:List Adm) (x:XC)|spc (j:Nat) (x:XC)
abbrev KC:=Nat→SL→T→Nat→Bool
noncomputable def frc (v:AV) (K0:Bool) (K:AV→Bool):Bool:=AV.casesOn v K0 (fun k z=>K (.int k z)) (fun b=>K (.bool b)) (fun l=>K (.str l)) (fun i o=>K (.ptr i o)) (fun i o n c=>K (.sl i o n c)) (fun i=>K (.map i)) (K .nilP) (K .nilS) (K .nilM) (K .nilF) (K .nilI) (fun t v=>K (.iface t v)) (fun f c=>K (.fn f c)) (fun i=>K (.yl i)) (fun l=>K (.agg l)) (fun l=>K (.tup l)) (fun i=>K (.any i)) (fun s=>K (.sy s))
theorem ai9 {v:AV} {K0:Bool} {K:AV→Bool} (h:frc v K0 K=true):(v= .bad∧K0=true)∨K v=true:=by
 cases v<;>first|exact .inr h|exact .inl ⟨rfl,h⟩
noncomputable def JF (S:SL) (live:List Nat):SL→(SL→Bool)→Bool:=List.rec (fun acc K=>K acc) (fun t _ ih acc K=>frc (bH t S) (ih acc K) fun v=>ih (.cons t v acc) K) live
noncomputable def adj (p:XP) (S:SL) (K:Bool→SL→Bool):Bool:=XP.casesOn p (fun n=>LC n S K) (fun v=>WI v fun b=>K b S) (fun _=>false)
abbrev gB:=Nat→SL→T→Nat→KC→Bool
noncomputable def cC (cf:iB) (lp:gB) (lf:Nat) (c:XC):SL→T→Nat→KC→Bool:=XC.rec
 (fun _ _ _ _=>false) (fun S M nx K=>K 0 S M nx) (fun S M nx K=>K 1 S M nx) (fun k S M nx K=>K k S M nx)
 (fun _ _ tr S M nx K=>Pt cf tr S M nx fun S M nx=>K 0 S M nx)
 (fun _ _ ihx ihy S M nx K=>ihx S M nx fun e S M nx=>Nat.casesOn e (ihy S M nx K) fun e'=>K (Nat.succ e') S M nx)
 (fun p _ _ ihx ihy S M nx K=>adj p S fun b S=>br b (ihx S M nx K) (ihy S M nx K))
 (fun k _ ih S M nx K=>ih S M nx fun e S M nx=>br (Nat.beq e k) (K 0 S M nx) (K e S M nx))
 (fun live _ ih S M nx K=>Nat.rec (motive:=fun _=>SL→T→Nat→Bool) (fun _ _ _=>false) (fun _ hO S M nx=>JF S live .nil fun S=>ih S M nx fun e S M nx=>Nat.casesOn e (hO S M nx) fun e'=>K (Nat.succ e') S M nx) lf S M nx)
 (fun j _ _ S M nx K=>lp j S M nx K)
 (fun _ l ih S M nx K=>ih S M nx fun e S M nx=>eL (MO l e S) S M nx (K e))
 (fun l _ ih S M nx K=>eL l S M nx fun S M nx=>ih S M nx K)
 (fun j _ _ S M nx K=>lp j S M nx K) c
def Mh:Nat→Exit
 |0=>.normal|1=>.ret|n+2=>.exit n
def JM:List XSt→Bool
 |[]=>true
 |.a ..::_=>false
 |_::r=>JM r
def fw (P:Program) (N:Nat):XC→Code→Bool
 |.bad,_=>true
 |.skip,.skip=>true
 |.ret,.ret=>true
 |.exit k,.exit i=>Nat.beq k (i+2)
 |.reg draw n tr,.region _ ops d=>decide (draw=d)&&Lb P ops N tr&&(match draw,tr with|true,_=>EN ops n [] (Xn tr)|false,.leaf sts=>JM sts&&Nat.beq ops.size n&&decide ((sts.map fun s=>(AG s).1)=List.range n)|_,_=>false)
 |.seq x y,.seq a b=>fw P N x a&&fw P N y b
 |.cond p x y,.cond c a b=>cb p c&&fw P N x a&&fw P N y b
 |.block k c,.block i a=>Nat.beq k (i+2)&&fw P N c a
 |.loop _ c,.loop a=>fw P N c a
 |.inv _ c,.loop a=>fw P N c a
 |.aft x _,c=>fw P N x c
 |.pre _ x,c=>fw P N x c
 |.spc _ x,c=>fw P N x c
 |_,_=>false
def plain:XC→Bool
 |.seq x y=>plain x&&plain y
 |.cond _ x y=>plain x&&plain y
 |.block _ c=>plain c
 |.loop _ c=>plain c
 |.inv ..|.aft ..|.pre ..|.spc ..=>false
 |_=>true
def fk:XC→List (Bool×Nat×XC)
 |.seq x y=>fk x++fk y
 |.cond _ x y=>fk x++fk y
 |.block _ c=>fk c
 |.loop _ c=>fk c
 |.inv j c=>[(true,j,c)]
 |.aft x _=>fk x
 |.pre _ x=>fk x
 |.spc j x=>[(false,j,x)]
 |_=>[]
section
variable {P:Program} {E:Env} {ρ:Ren} {G:GS} {F:List bo} {M:T} {nx:Nat} {w:World} {N:Nat} {S:SL} {a:Act} {ops:Array Oper} {o:Oper}
theorem acq (s:SR E ρ N S a) {p:XP} {c:Operand} {K:Bool→SL→Bool} (ho:cb p c=true) (h:adj p S K=true):∃b S',a.eval c= .bool b∧SR E ρ N S' a∧K b S'=true:=by
 cases p with
 |t n=>
  cases c<;>simp only[cb]at ho<;>first|(cases ho;done)|skip
  have:=ako ho
  subst this
  obtain⟨b,S',h1,h2,h3⟩:=VH s (show LC n S K=true from h)
  exact⟨b,S',h1,h2,h3⟩
 |c v=>
  cases c<;>simp only[cb]at ho<;>first|(cases ho;done)|skip
  have hd:=yH (E:=E) (ρ:=ρ) ho
  obtain⟨b,rfl,h1⟩:=Ld (show WI v (fun b=>K b S)=true from h)
  cases hd
  exact⟨b,S,rfl,s,h1⟩
 |f n=>cases h
theorem Ho (s:SR E ρ N S a):∀{live:List Nat} {acc:SL} {K:SL→Bool},SR E ρ N acc a→JF S live acc K=true→∃S',SR E ρ N S' a∧K S'=true
 |[],acc,K,sa,h=>⟨acc,sa,h⟩
 |t::live,acc,K,sa,h=>by
  have h':frc (bH t S) (JF S live acc K) (fun v=>JF S live (.cons t v acc) K)=true:=h
  rcases ai9 h' with⟨_,h1⟩|h1
  ·exact Ho s sa h1
  ·refine Ho s ⟨sa.size,sa.defs,fun u=> ?_⟩ h1
   by_cases e:t=u
   ·subst e
    rw[fL]
    exact s.at_ t
   ·rw[jV _ _ e]
    exact sa.at_ u
theorem SR.nil (h1:a.tmps.size=N) (h2:a.defers=[]):SR E ρ N .nil a:=⟨h1,h2,fun _=>.inl rfl⟩
theorem tz {Q:Exit→Act→World→Prop}:∀{sts:List XSt} {a:Act} {w:World},JM sts=true→qb P ops (fun a w=>Q .normal a w) (sts.map AG) a w→wpOps P ops Q (sts.map fun s=>(AG s).1) a w
 |[],_,_,_,h=>h
 |.p i d g x::r,a,w,hn,⟨v,h1,h2⟩=>by
  rw[List.map_cons,wpOps_cons]
  exact Fi ((h1 w).to (tz (Q:=Q) (by simpa[JM] using hn) h2))
 |.r i d g x::r,a,w,hn,⟨v,h1,h2⟩=>by
  rw[List.map_cons,wpOps_cons]
  exact Fi (h1.to (tz (Q:=Q) (by simpa[JM] using hn) h2))
 |.e i d g x::r,a,w,hn,h=>by
  rw[List.map_cons,wpOps_cons]
  exact Fi (op1.mono h fun a w h=>tz (Q:=Q) (by simpa[JM] using hn) h)
 |.c i d g f xs::r,a,w,hn,h=>by
  rw[List.map_cons,wpOps_cons]
  exact Fi (op1.mono h fun a w h=>tz (Q:=Q) (by simpa[JM] using hn) h)
 |.k i d g t f xs::r,a,w,hn,h=>by
  rw[List.map_cons,wpOps_cons]
  exact Fi (op1.mono h fun a w h=>tz (Q:=Q) (by simpa[JM] using hn) h)
 |.a i d g x::r,a,w,hn,h=>by simp[JM]at hn
structure Rel (fl:Bool) (pk:Nat) (E:Env) (ρ:Ren) (E':Env) (ρ':Ren):Prop where
 one:fu E'
 mem:MLe E.M E'.M
 ext:fl=true→Ext E ρ E' ρ'
 pin:∀i e,i<pk→ρ i=some e→ρ' i=some e
theorem Ext.rel {fl:Bool} {pk:Nat} {E':Env} {ρ':Ren} (h:Ext E ρ E' ρ'):Rel fl pk E ρ E' ρ':=⟨h.one,h.env.mem,fun _=>h,fun i e _ q=>h.le i e q⟩
theorem Rel.trans {fl:Bool} {pk:Nat} {E1 E2 E3:Env} {r1 r2 r3:Ren} (h:Rel fl pk E1 r1 E2 r2) (k:Rel fl pk E2 r2 E3 r3):Rel fl pk E1 r1 E3 r3:=⟨k.one,MLe.trans h.mem k.mem,fun q=>(h.ext q).trans (k.ext q),fun i e q1 q2=>k.pin i e q1 (h.pin i e q1 q2)⟩
theorem Rel.next {pk:Nat} {E1 E2:Env} {r1 r2 r3:Ren} (h:Rel false pk E1 r1 E2 r2) (k:∀i e,i<pk→r2 i=some e→r3 i=some e):Rel false pk E1 r1 E2 r3:=⟨h.one,h.mem,fun q=>(by cases q),fun i e q1 q2=>k i e q1 (h.pin i e q1 q2)⟩
theorem Rel.prev {pk:Nat} {E1 E2:Env} {r1 r2 r3:Ren} (h:Rel false pk E1 r2 E2 r3) (k:∀i e,i<pk→r1 i=some e→r2 i=some e):Rel false pk E1 r1 E2 r3:=⟨h.one,h.mem,fun q=>(by cases q),fun i e q1 q2=>h.pin i e q1 (k i e q1 q2)⟩
def cB (pk:Nat):List Adm→Bool
 |[]=>true
 |.can k _::l=>Nat.ble pk k&&cB pk l
 |.born ..::l=>cB pk l
 |.cell ..::l=>cB pk l
 |.up _::l=>cB pk l
 |.upc ..::l=>cB pk l
 |.upm _::l=>cB pk l
 |.shr _::l=>cB pk l
 |.fix ..::l=>cB pk l
 |.frz _::l=>cB pk l
 |.fixc ..::l=>cB pk l
 |.frzc ..::l=>cB pk l
 |.fixo ..::l=>cB pk l
 |.fixg ..::l=>cB pk l
 |.tail ..::l=>cB pk l
 |.kb ..::l=>cB pk l
 |.die::l=>cB pk l
 |.kfork ..::l=>cB pk l
 |.bors ..::l=>cB pk l
 |.kjoin ..::l=>cB pk l
def Pw (pk:Nat):List (Nat×List Adm)→Bool
 |[]=>true
 |p::l=>cB pk p.2&&Pw pk l
def fG (pk:Nat):XC→Bool
 |.seq x y=>fG pk x&&fG pk y
 |.cond _ x y=>fG pk x&&fG pk y
 |.block _ c=>fG pk c
 |.loop _ c=>fG pk c
 |.aft x l=>fG pk x&&Pw pk l
 |.pre l x=>cB pk l&&fG pk x
 |_=>true
theorem HQ {pk:Nat}:∀{l:List (Nat×List Adm)} {e:Nat},Pw pk l=true→cB pk (Ev l e)=true
 |[],e,_=>rfl
 |p::l,e,h=>by
  obtain⟨h1,h2⟩:=aV h
  have:Ev (p::l) e=(Bool.rec (Ev l e) p.2 (Nat.beq p.1 e):List Adm):=rfl
  rw[this]
  cases Nat.beq p.1 e
  ·exact HQ h2
  ·exact h1
theorem ZD {pk:Nat} {l:List (Nat×List Adm)} {e:Nat} {S:SL} (h:Pw pk l=true):cB pk (MO l e S)=true:=by
 unfold MO
 cases ai8 l (Nat.add e (Nat.mul 1000 (Xt S)))
 ·exact HQ h
 ·exact HQ h
theorem db {pk:Nat}:∀{l:List Adm} {S:SL} {M:T} {nx:Nat} {E:Env} {ρ:Ren} {K:SL→T→Nat→Bool},fu E→cB pk l=true→SR E ρ N S a→Sim E ρ G F M nx w→eL l S M nx K=true→∃S' M' nx' E' ρ',fu E'∧MLe E.M E'.M∧SR E' ρ' N S' a∧Sim E' ρ' G F M' nx' w∧K S' M' nx'=true∧∀i e,i<pk→ρ i=some e→ρ' i=some e
 |[],S,M,nx,E,ρ,K,hE,_,s,h,hk=>⟨S,M,nx,E,ρ,hE,MLe.refl _,s,h,hk,fun _ _ _ q=>q⟩
 |.can k live::l,S,M,nx,E,ρ,K,hE,hp,s,h,hk=>by
  obtain⟨hp1,hp2⟩:=aV hp
  rw[Nat.ble_eq]at hp1
  obtain⟨S1,M1,n1,ρ1,s1,h1,k1,p1⟩:=afM (K:=fun S M nx=>eL l S M nx K) s h hk
  obtain⟨S2,M2,n2,E2,ρ2,o2,m2,s2,h2,k2,p2⟩:=db hE hp2 s1 h1 k1
  exact⟨S2,M2,n2,E2,ρ2,o2,m2,s2,h2,k2,fun i e q1 q2=>p2 i e q1 (p1 i e (Nat.lt_of_lt_of_le q1 hp1) q2)⟩
 |.born t Ty sz α enc::l,S,M,nx,E,ρ,K,hE,hp,s,h,hk=>by
  obtain⟨S1,M1,n1,ρ1,le1,s1,h1,k1⟩:=TA (K:=fun S M nx=>eL l S M nx K) s h hk
  obtain⟨S2,M2,n2,E2,ρ2,o2,m2,s2,h2,k2,p2⟩:=db hE (show cB pk l=true from hp) s1 h1 k1
  exact⟨S2,M2,n2,E2,ρ2,o2,m2,s2,h2,k2,fun i e q1 q2=>p2 i e q1 (le1 i e q2)⟩
 |.cell i q r Ty sz α enc::l,S,M,nx,E,ρ,K,hE,hp,s,h,hk=>by
  obtain⟨M1,n1,ρ1,le1,h1,k1⟩:=acs (K:=fun M nx=>eL l S M nx K) h hk
  obtain⟨S2,M2,n2,E2,ρ2,o2,m2,s2,h2,k2,p2⟩:=db hE (show cB pk l=true from hp) (s.mono le1) h1 k1
  exact⟨S2,M2,n2,E2,ρ2,o2,m2,s2,h2,k2,fun i e q1 q2=>p2 i e q1 (le1 i e q2)⟩
 |.up t::l,S,M,nx,E,ρ,K,hE,hp,s,h,hk=>by
  obtain⟨S1,s1,k1⟩:=agd (K:=fun S=>eL l S M nx K) s hk
  exact db hE (show cB pk l=true from hp) s1 h k1
 |.upc i q r::l,S,M,nx,E,ρ,K,hE,hp,s,h,hk=>by
  obtain⟨M1,h1,k1⟩:=adW (K:=fun M=>eL l S M nx K) h hk
  exact db hE (show cB pk l=true from hp) s h1 k1
 |.upm i::l,S,M,nx,E,ρ,K,hE,hp,s,h,hk=>by
  obtain⟨M1,h1,k1⟩:=adU (K:=fun M=>eL l S M nx K) h hk
  exact db hE (show cB pk l=true from hp) s h1 k1
 |.shr i::l,S,M,nx,E,ρ,K,hE,hp,s,h,hk=>by
  obtain⟨M1,h1,k1⟩:=aeA (K:=fun M=>eL l S M nx K) h hk
  exact db hE (show cB pk l=true from hp) s h1 k1
 |.kb i ak av α kf vf::l,S,M,nx,E,ρ,K,hE,hp,s,h,hk=>by
  obtain⟨M1,h1,k1⟩:=ZE (K:=fun M=>eL l S M nx K) h hk
  exact db hE (show cB pk l=true from hp) s h1 k1
 |.kfork i q r::l,S,M,nx,E,ρ,K,hE,hp,s,h,hk=>by
  obtain⟨M1,h1,k1⟩:=ZB (K:=fun M=>eL l S M nx K) h hk
  exact db hE (show cB pk l=true from hp) s h1 k1
 |.kjoin i q r ak av α kf vf::l,S,M,nx,E,ρ,K,hE,hp,s,h,hk=>by
  obtain⟨M1,n1,ρ1,le1,h1,k1⟩:=Zz (K:=fun M nx=>eL l S M nx K) h hk
  obtain⟨S2,M2,n2,E2,ρ2,o2,m2,s2,h2,k2,p2⟩:=db hE (show cB pk l=true from hp) (s.mono le1) h1 k1
  exact⟨S2,M2,n2,E2,ρ2,o2,m2,s2,h2,k2,fun i e q1 q2=>p2 i e q1 (le1 i e q2)⟩
 |.bors t Ty sz α enc::l,S,M,nx,E,ρ,K,hE,hp,s,h,hk=>by
  rcases bk (show br (eG (bH t S)) (eL l S M nx K) (PE t Ty sz α enc S M nx fun S M nx=>eL l S M nx K)=true from hk) with⟨_,hk⟩|⟨_,hk⟩
  ·exact db hE (show cB pk l=true from hp) s h hk
  obtain⟨S1,M1,n1,ρ1,le1,s1,h1,k1⟩:=TA (K:=fun S M nx=>eL l S M nx K) s h hk
  obtain⟨S2,M2,n2,E2,ρ2,o2,m2,s2,h2,k2,p2⟩:=db hE (show cB pk l=true from hp) s1 h1 k1
  exact⟨S2,M2,n2,E2,ρ2,o2,m2,s2,h2,k2,fun i e q1 q2=>p2 i e q1 (le1 i e q2)⟩
 |.die::l,S,M,nx,E,ρ,K,hE,hp,s,h,hk=>by cases(show false=true from hk)
 |.fix t n::l,S,M,nx,E,ρ,K,hE,hp,s,h,hk=>by
  obtain⟨S1,s1,k1⟩:=afx (K:=fun S=>eL l S M nx K) s hk
  exact db hE (show cB pk l=true from hp) s1 h k1
 |.tail i q r::l,S,M,nx,E,ρ,K,hE,hp,s,h,hk=>by
  obtain⟨M1,h1,k1⟩:=abq (K:=fun M=>eL l S M nx K) h hk
  exact db hE (show cB pk l=true from hp) s h1 k1
 |.fixg t i lo n::l,S,M,nx,E,ρ,K,hE,hp,s,h,hk=>by
  obtain⟨S1,s1,k1⟩:=ab7 (K:=fun S=>eL l S M nx K) s hk
  exact db hE (show cB pk l=true from hp) s1 h k1
 |.frz t::l,S,M,nx,E,ρ,K,hE,hp,s,h,hk=>by
  have hk':(Yb (bH t S) M fun v M=>eL l (.cons t v S) M nx K)=true:=hk
  have hne:bH t S≠ .bad:=fun e=>by rw[e]at hk';cases hk'
  obtain⟨x,q1,q2⟩:=(s.at_ t).resolve_left hne
  obtain⟨E1,M1,u,e1,e2,e3,e4,k1⟩:=Wl h q1 hk'
  have hE1:fu E1:=⟨fun i=>by rw[e2];exact hE.1 i,Tied.mono e1.mem hE.2⟩
  have s1:SR E1 ρ N (.cons t u S) a:=⟨s.size,s.defs,fun r=>by
   by_cases q:t=r
   ·subst q
    rw[fL]
    exact .inr ⟨x,gA (ρ:=fun _=>none) (fun _ _ q=>by cases q) u x e4,q2⟩
   ·rw[jV _ _ q]
    exact(s.at_ r).imp id fun⟨y,y1,y2⟩=>⟨y,ox e1 _ _ y1,y2⟩⟩
  obtain⟨S2,M2,n2,E2,ρ2,o2,m2,s2,h2,k2,p2⟩:=db hE1 (show cB pk l=true from hp) s1 e3 k1
  exact⟨S2,M2,n2,E2,ρ2,o2,MLe.trans e1.mem m2,s2,h2,k2,p2⟩
 |.frzc i q r::l,S,M,nx,E,ρ,K,hE,hp,s,h,hk=>by
  obtain⟨E1,M1,e1,e2,h1,k1⟩:=ab3 (K:=fun M=>eL l S M nx K) h hk
  have hE1:fu E1:=⟨fun i=>by rw[e2];exact hE.1 i,Tied.mono e1.mem hE.2⟩
  have s1:SR E1 ρ N S a:=⟨s.size,s.defs,fun r=>(s.at_ r).imp id fun⟨y,y1,y2⟩=>⟨y,ox e1 _ _ y1,y2⟩⟩
  obtain⟨S2,M2,n2,E2,ρ2,o2,m2,s2,h2,k2,p2⟩:=db hE1 (show cB pk l=true from hp) s1 h1 k1
  exact⟨S2,M2,n2,E2,ρ2,o2,MLe.trans e1.mem m2,s2,h2,k2,p2⟩
 |.fixo i q r n::l,S,M,nx,E,ρ,K,hE,hp,s,h,hk=>by
  obtain⟨M1,h1,k1⟩:=ab6 (K:=fun M=>eL l S M nx K) h hk
  exact db hE (show cB pk l=true from hp) s h1 k1
 |.fixc i q r n::l,S,M,nx,E,ρ,K,hE,hp,s,h,hk=>by
  obtain⟨M1,h1,k1⟩:=ab8 (K:=fun M=>eL l S M nx K) h hk
  exact db hE (show cB pk l=true from hp) s h1 k1
def dp (P:Program) (N pk:Nat) (lp:gB) (b:Bool) (j:Nat) (x:XC):Prop:=∀(c:Code) (S:SL) (M:T) (nx:Nat) (E:Env) (ρ:Ren) (G:GS) (F:List bo) (a:Act) (w:World) (K:KC) (Q:Exit→Act→World→Prop),fu E→fw P N x c=true→SR E ρ N S a→Sim E ρ G F M nx w→lp j S M nx K=true→
 (∀e S' M' nx' E' ρ' a' w',K e S' M' nx'=true→Rel false pk E ρ E' ρ'→SR E' ρ' N S' a'→Sim E' ρ' G F M' nx' w'→Q (Mh e) a' w')→(bif b then Code.loop c else c).wp P Q a w
theorem IV (hm:P.follows .mixedOrders=true) {cf:iB} (hcf:jF P cf) {lp:gB} {lf:Nat} {fl:Bool} {pk:Nat}:∀(xc:XC) (c:Code) {S:SL} {M:T} {nx:Nat} {E:Env} {ρ:Ren} {a:Act} {w:World} {K:KC} {Q:Exit→Act→World→Prop},fu E→(fl=true→plain xc=true)→fG pk xc=true→(∀b j x,(b,j,x)∈fk xc→dp P N pk lp b j x)→fw P N xc c=true→SR E ρ N S a→Sim E ρ G F M nx w→cC cf lp lf xc S M nx K=true→
  (∀e S' M' nx' E' ρ' a' w',K e S' M' nx'=true→Rel fl pk E ρ E' ρ'→SR E' ρ' N S' a'→Sim E' ρ' G F M' nx' w'→Q (Mh e) a' w')→c.wp P Q a w:=by
 intro xc
 induction xc with
 |bad=>
  intro c S M nx E ρ a w K Q hE hfl hkp hlp hc s h hk hq
  cases hk
 |skip=>
  intro c S M nx E ρ a w K Q hE hfl hkp hlp hc s h hk hq
  cases c<;>simp only[fw]at hc<;>first|(cases hc;done)|skip
  exact wp_skip (hq 0 _ _ _ _ _ _ _ hk (Ext.of hE (Ren.Le.refl _)).rel s h)
 |ret=>
  intro c S M nx E ρ a w K Q hE hfl hkp hlp hc s h hk hq
  cases c<;>simp only[fw]at hc<;>first|(cases hc;done)|skip
  exact wp_ret (hq 1 _ _ _ _ _ _ _ hk (Ext.of hE (Ren.Le.refl _)).rel s h)
 |exit k=>
  intro c S M nx E ρ a w K Q hE hfl hkp hlp hc s h hk hq
  cases c<;>simp only[fw]at hc<;>first|(cases hc;done)|skip
  have:=ako hc
  subst this
  exact wp_exit (hq _ _ _ _ _ _ _ _ hk (Ext.of hE (Ren.Le.refl _)).rel s h)
 |reg draw n tr=>
  intro c S M nx E ρ a w K Q hE hfl hkp hlp hc s h hk hq
  cases c<;>simp only[fw]at hc<;>first|(cases hc;done)|skip
  rename_i id ops d
  obtain⟨hc,c3⟩:=aV hc
  obtain⟨c1,c2⟩:=aV hc
  rw[decide_eq_true_eq]at c1
  subst c1
  cases draw with
  |true=>
   refine Lq hm n _ c3 ?_
   exact GX hE hcf s h.drawn (fun S' M' nx' E' ρ' a' w' k1 k2 k3 k4=>hq 0 _ _ _ _ _ _ _ k1 k2.rel k3 k4) c2 hk
  |false=>
   cases tr with
   |split x y t u=>cases c3
   |leaf sts=>
    have hall:∀st∈sts,tp P ops N st=true:=fun st hst=>List.all_eq_true.1 c2 st hst
    obtain⟨hc,c5⟩:=aV c3
    obtain⟨c3,c4⟩:=aV hc
    rw[decide_eq_true_eq]at c5
    have c4:=ako c4
    refine wp_region ?_
    rw[c4,←c5]
    exact tz c3 (LB hcf hE hall s h hk fun S' M' nx' E' ρ' a' w' k1 k2 k3 k4=>hq 0 _ _ _ _ _ _ _ k1 k2.rel k3 k4)
 |seq x y ihx ihy=>
  intro c S M nx E ρ a w K Q hE hfl hkp hlp hc s h hk hq
  cases c<;>simp only[fw]at hc<;>first|(cases hc;done)|skip
  obtain⟨c1,c2⟩:=aV hc
  refine wp_seq (ihx _ hE (fun q=>(aV (hfl q)).1) (aV hkp).1 (fun b j x h=>hlp b j x (List.mem_append.2 (.inl h))) c1 s h hk fun e S' M' nx' E' ρ' a' w' k1 k2 k3 k4=> ?_)
  match e,k1 with
  |0,k1=>exact ihy _ k2.one (fun q=>(aV (hfl q)).2) (aV hkp).2 (fun b j x h=>hlp b j x (List.mem_append.2 (.inr h))) c2 k3 k4 k1 fun e S2 M2 nx2 E2 ρ2 a2 w2 j1 j2=>hq e _ _ _ _ _ _ _ j1 (k2.trans j2)
  |1,k1=>exact hq 1 _ _ _ _ _ _ _ k1 k2 k3 k4
  |n+2,k1=>exact hq (n+2) _ _ _ _ _ _ _ k1 k2 k3 k4
 |cond p x y ihx ihy=>
  intro c S M nx E ρ a w K Q hE hfl hkp hlp hc s h hk hq
  cases c<;>simp only[fw]at hc<;>first|(cases hc;done)|skip
  obtain⟨hc,c3⟩:=aV hc
  obtain⟨c1,c2⟩:=aV hc
  obtain⟨b,S,h2,s,h4⟩:=acq s c1 hk
  rcases bk h4 with⟨rfl,h5⟩|⟨rfl,h5⟩
  ·exact wp_cond_true h2 (ihx _ hE (fun q=>(aV (hfl q)).1) (aV hkp).1 (fun b j x h=>hlp b j x (List.mem_append.2 (.inl h))) c2 s h h5 hq)
  ·exact wp_cond_false h2 (ihy _ hE (fun q=>(aV (hfl q)).2) (aV hkp).2 (fun b j x h=>hlp b j x (List.mem_append.2 (.inr h))) c3 s h h5 hq)
 |block k x ih=>
  intro c S M nx E ρ a w K Q hE hfl hkp hlp hc s h hk hq
  cases c<;>simp only[fw]at hc<;>first|(cases hc;done)|skip
  rename_i i cc
  obtain⟨c1,c2⟩:=aV hc
  have c1:=ako c1
  subst c1
  refine wp_block (ih _ hE hfl hkp hlp c2 s h hk fun e S' M' nx' E' ρ' a' w' k1 k2 k3 k4=> ?_)
  rcases bk k1 with⟨q,g1⟩|⟨q,g1⟩
  ·have he:=ako q
   have h0:=hq 0 _ _ _ _ _ _ _ g1 k2 k3 k4
   rw[he]
   simp only[Mh,Exit.inBlock,if_true]
   exact h0
  ·have:=hq e _ _ _ _ _ _ _ g1 k2 k3 k4
   match e,q,this with
   |0,_,this=>exact this
   |1,_,this=>exact this
   |n+2,q,this=>
    have hne:¬n=i:=fun e=>by subst e;simp at q
    simp only[Mh,Exit.inBlock,if_neg hne]
    exact this
 |loop live x ih=>
  intro c S M nx E ρ a w K Q hE hfl hkp hlp hc s h hk hq
  cases c<;>simp only[fw]at hc<;>first|(cases hc;done)|skip
  rename_i cc
  refine wp_loop_rounds lf ?_
  have key:∀(n:Nat) {S:SL} {M:T} {nx:Nat} {E:Env} {ρ:Ren} {a:Act} {w:World},fu E→SR E ρ N S a→Sim E ρ G F M nx w→
    (Nat.rec (motive:=fun _=>SL→T→Nat→Bool) (fun _ _ _=>false) (fun _ hO S M nx=>JF S live .nil fun S=>cC cf lp lf x S M nx fun e S M nx=>Nat.casesOn e (hO S M nx) fun e'=>K (Nat.succ e') S M nx) n S M nx)=true→
    (∀e S' M' nx' E' ρ' a' w',K e S' M' nx'=true→Rel fl pk E ρ E' ρ'→SR E' ρ' N S' a'→Sim E' ρ' G F M' nx' w'→Q (Mh e) a' w')→Code.rounds P cc Q n a w:=by
   intro n
   induction n with
   |zero=>intro S M nx E ρ a w _ _ _ hk;cases hk
   |succ n ihn=>
    intro S M nx E ρ a w hE s h hk hq
    obtain⟨S1,s1,hk1⟩:=Ho s (SR.nil s.size s.defs) hk
    refine ih _ hE hfl hkp hlp hc s1 h hk1 fun e S' M' nx' E' ρ' a' w' k1 k2 k3 k4=> ?_
    match e,k1 with
    |0,k1=>exact ihn k2.one k3 k4 k1 fun e S2 M2 nx2 E2 ρ2 a2 w2 j1 j2=>hq e _ _ _ _ _ _ _ j1 (k2.trans j2)
    |1,k1=>exact hq 1 _ _ _ _ _ _ _ k1 k2 k3 k4
    |m+2,k1=>exact hq (m+2) _ _ _ _ _ _ _ k1 k2 k3 k4
  exact key lf hE s h hk hq
 |inv j x ih=>
  intro c S M nx E ρ a w K Q hE hfl hkp hlp hc s h hk hq
  cases c<;>simp only[fw]at hc<;>first|(cases hc;done)|skip
  cases fl with
  |true=>exact absurd (hfl rfl) (by simp[plain])
  |false=>exact hlp true j x (by simp[fk]) _ S M nx E ρ G F a w K Q hE hc s h hk hq
 |aft x l ih=>
  intro c S M nx E ρ a w K Q hE hfl hkp hlp hc s h hk hq
  cases fl with
  |true=>exact absurd (hfl rfl) (by simp[plain])
  |false=>
   have hc':fw P N x c=true:=by
    cases c<;>exact hc
   refine ih c hE (fun q=>by cases q) (aV hkp).1 hlp hc' s h hk fun e S' M' nx' E' ρ' a' w' k1 k2 k3 k4=> ?_
   obtain⟨S2,M2,n2,E2,ρ2,o2,m2,s2,h2,g2,p2⟩:=db k2.one (ZD (aV hkp).2) k3 k4 k1
   exact hq e S2 M2 n2 E2 ρ2 a' w' g2 (k2.trans ⟨o2,m2,fun q=>(by cases q),p2⟩) s2 h2
 |pre l x ih=>
  intro c S M nx E ρ a w K Q hE hfl hkp hlp hc s h hk hq
  cases fl with
  |true=>exact absurd (hfl rfl) (by simp[plain])
  |false=>
   have hc':fw P N x c=true:=by
    cases c<;>exact hc
   obtain⟨S2,M2,n2,E2,ρ2,o2,m2,s2,h2,g2,p2⟩:=db (K:=fun S M nx=>cC cf lp lf x S M nx K) hE (aV hkp).1 s h hk
   exact ih c o2 (fun q=>by cases q) (aV hkp).2 hlp hc' s2 h2 g2 fun e S' M' nx' E' ρ' a' w' k1 k2 k3 k4=>hq e S' M' nx' E' ρ' a' w' k1 (Rel.trans ⟨o2,m2,fun q=>(by cases q),p2⟩ k2) k3 k4
 |spc j x ih=>
  intro c S M nx E ρ a w K Q hE hfl hkp hlp hc s h hk hq
  cases fl with
  |true=>exact absurd (hfl rfl) (by simp[plain])
  |false=>
   have hc':fw P N x c=true:=by
    cases c<;>exact hc
   exact hlp false j x (by simp[fk]) c S M nx E ρ G F a w K Q hE hc' s h hk hq
end
inductive XRes|none|one (t:Nat)|two (t u:Nat)|cell (t:Nat) (agg:Bool) (n:Nat)|ct (t:Nat) (agg:Bool) (n u:Nat)|three (t u v:Nat)
inductive XF:Type 1|mk (N:Nat) (res:XRes) (body:XC)
noncomputable def PX (r:XRes) (S:SL) (M:T) (K:AV→Bool):Bool:=XRes.casesOn r (K (.tup [])) (fun t=>nb (bH t S) K) (fun t u=>nb (bH t S) fun x=>nb (bH u S) fun y=>K (.tup [x,y])) (fun t agg n=>nb (bH t S) fun p=>VZ agg n p M K) (fun t agg n u=>nb (bH t S) fun p=>VZ agg n p M fun v=>nb (bH u S) fun y=>K (.tup [v,y])) (fun t u v=>nb (bH t S) fun x=>nb (bH u S) fun y=>nb (bH v S) fun z=>K (.tup [x,y,z]))
noncomputable def Fz (vs:List AV):Nat→SL→(SL→Bool)→Bool:=List.rec (fun _ S K=>K S) (fun v _ ih n S K=>ih (Nat.succ n) (.cons n v S) K) vs
def Tw (P:Program) (r:XRes) (rs:List ResultVar):Bool:=match r,rs with
 |.none,[]=>true
 |.one t,[.tmp t']=>Nat.beq t t'
 |.two t u,[.tmp t',.tmp u']=>Nat.beq t t'&&Nat.beq u u'
 |.three t u v,[.tmp t',.tmp u',.tmp v']=>Nat.beq t t'&&Nat.beq u u'&&Nat.beq v v'
 |.cell t agg n,[.cell t' ty]=>Nat.beq t t'&&decide (kg P ty=some agg)&&decide (cJ P ty=some n)
 |.ct t agg n u,[.cell t' ty,.tmp u']=>Nat.beq t t'&&decide (kg P ty=some agg)&&decide (cJ P ty=some n)&&Nat.beq u u'
 |_,_=>false
def lu:XF→XC
 |.mk _ _ b=>b
def nOf:XF→Nat
 |.mk n _ _=>n
def aW (P:Program) (f:Nat) (xf:XF):Bool:=match xf,P.funcs[f]? with
 |.mk N res body,some fn=>(match fn.body with|some c=>Nat.beq fn.ntmps N&&Tw P res fn.results.toList&&fw P N body c|none=>false)
 |_,none=>false
abbrev aM:=List AV→T→Nat→(AV→T→Nat→Bool)→Bool
inductive ES:Type 1|mk (k:Nat) (sp:aM)
noncomputable def fP (l:List (Nat×Nat)):(List (Nat×Nat)→Bool)→Bool:=List.rec (fun K=>K []) (fun p _ ih K=>fN p.1 fun a=>fN p.2 fun b=>ih fun l=>K ((a,b)::l)) l
theorem PC:∀{l:List (Nat×Nat)} {K:List (Nat×Nat)→Bool},fP l K=K l
 |[],K=>rfl
 |p::l,K=>by
  have:fP (p::l) K=(fN p.1 fun a=>fN p.2 fun b=>fP l fun l=>K ((a,b)::l)):=rfl
  rw[this,bW,bW,PC]
def TD (n:Nat) (ps:List (Nat×Nat)):Bool:=ps.all fun p=>Nat.blt p.2 n
theorem OR {n:Nat} {ps:List (Nat×Nat)} (h:TD n ps=true):∀p∈ps,p.2<n:=fun p hp=>by
 have:=List.all_eq_true.1 h p hp
 simpa[akF] using this
noncomputable def Yq (k:Nat) (v:AV) (M:T) (K:AV→T→Nat→Bool):Bool:=fP (LP 0 (tb M 200 (Lu k (AH v)) [])) fun ps=>ac (JE ps k) (ac (gu ps) (fN ps.length fun n=>ac (TD n ps) (xi ps M ps .leaf fun M'=>dh (fo ps v) fun v'=>K v' M' n)))
noncomputable def acp (l:List (Nat×Nat)):T→(T→Bool)→Bool:=List.rec (fun M K=>K M) (fun p _ ih M K=>T.set bI M p.1 none fun M=>ih M K) l
noncomputable def lkB (ps:List (Nat×Nat)) (j:Nat):Nat:=List.rec 0 (fun p _ ih=>Bool.rec ih p.1 (Nat.beq p.2 j)) ps
noncomputable def ais (k nx:Nat) (ps:List (Nat×Nat)) (l:List Nat):List (Nat×Nat):=List.rec [] (fun j _ ih=>(j,Bool.rec (Nat.add nx j) (lkB ps j) (Nat.blt j k))::ih) l
def ait (k nx n:Nat) (ps qs:List (Nat×Nat)):Bool:=qs.all fun q=>Nat.blt q.1 n&&((Nat.blt q.1 k&&ps.any fun p=>Nat.beq p.1 q.2&&Nat.beq p.2 q.1)||(Nat.ble k q.1&&Nat.beq q.2 (nx+q.1)))
noncomputable def Fk (k:Nat) (sp:aM) (vs:List AV) (M:T) (nx:Nat) (K:AV→T→Nat→Bool):Bool:=fP (LP 0 (tb M 200 (HT vs) [])) fun ps=>ac (gu ps) (fN ps.length fun n=>ac (TD n ps) (dh (jk ps vs) fun us=>xi ps M ps .leaf fun Ml=>sp us Ml n fun v M' n'=>
 fP (ais k nx ps (tb M' 200 (Lu k (AH v)) [])) fun qs=>ac (gu qs) (ac (ait k nx n' ps qs) (dh (fo qs v) fun v'=>acp ps M fun M1=>xi qs M' qs M1 fun M2=>fN (nx+n') fun n2=>K v' M2 n2))))
noncomputable def Yr (tab:Nat→Option XF) (nat:Nat→List AV→Option ES) (lp:gB) (lf:Nat):Nat→iB:=Nat.rec (fun f vs M nx K=>Option.casesOn (nat f vs) false fun es=>ES.casesOn es fun k sp=>Fk k sp vs M nx K) (fun _ ih f vs M nx K=>Option.casesOn (nat f vs) (dh (tab f) fun xf=>XF.casesOn xf fun N res body=>
 ac (Nat.ble (dN vs) N) (Fz vs 0 .nil fun S=>cC ih lp lf body S M nx fun e S M nx=>br (Nat.blt 1 e) false (PX res S M fun v=>K v M nx))) fun es=>ES.casesOn es fun k sp=>Fk k sp vs M nx K)
noncomputable def aY (k:Nat) (cf:iB) (lp:gB) (lf:Nat) (xf:XF) (vs:List AV) (M:T) (nx:Nat) (K:AV→T→Nat→Bool):Bool:=XF.casesOn xf fun N res body=>ac (Nat.ble (dN vs) N) (Fz vs 0 .nil fun S=>cC cf lp lf body S M nx fun e S M nx=>br (Nat.blt 1 e) false (PX res S M fun v=>Yq k v M K))
section
variable {P:Program} {E:Env} {ρ:Ren} {G:GS} {F:List bo} {M:T} {nx:Nat} {w:World} {N:Nat} {S:SL} {a:Act} {ops:Array Oper} {o:Oper} {pk:Nat}
theorem TM:∀{vs:List AV} {xs:List Value} {n:Nat} {S:SL} {K:SL→Bool},aO E ρ vs=some xs→(∀i x,xs[i]?=some x→a.tmps.getD (n+i) undef=x)→SR E ρ N S a→Fz vs n S K=true→∃S',SR E ρ N S' a∧K S'=true
 |[],xs,n,S,K,_,_,s,h=>⟨S,s,h⟩
 |v::vs,xs,n,S,K,hd,hx,s,h=>by
  obtain⟨y,ys,h1,h2,rfl⟩:=cA hd
  have h':Fz vs (Nat.succ n) (.cons n v S) K=true:=h
  refine TM h2 (fun i x hi=> ?_) ⟨s.size,s.defs,fun t=> ?_⟩ h'
  ·have:=hx (i+1) x (by simpa using hi)
   rw[show n+(i+1)=Nat.succ n+i by omega]at this
   exact this
  ·by_cases e:n=t
   ·subst e
    rw[fL]
    exact .inr ⟨y,h1,hx 0 y rfl⟩
   ·rw[jV _ _ e]
    exact s.at_ t
theorem lM (s:SR E ρ N S a) {t:Nat} {K:AV→Bool} (h:nb (bH t S) K=true):∃x,den E ρ (bH t S)=some x∧a.tmps.getD t undef=x∧K (bH t S)=true:=by
 obtain⟨h1,h2⟩:=ac9 h
 obtain⟨x,h3,h4⟩:=(s.at_ t).resolve_left h1
 exact⟨x,h3,h4,h2⟩
theorem aeE (s:SR E ρ N S a) (h:Sim E ρ G F M nx w) {fn:Func} {r:XRes} {K:AV→Bool} (hc:Tw P r fn.results.toList=true) (hk:PX r S M K=true):∃v z,den E ρ v=some z∧K v=true∧(results fn a.tmps).run P w= .ok z w:=by
 unfold Tw at hc
 split at hc
 ·rename_i h1
  have hr:=rF h1
  exact⟨.tup [],.tuple #[],by simp[den,aO],hk,results_none hr _ _ _⟩
 ·rename_i t t' h1
  have hr:=rF h1
  have:=ako hc
  subst this
  obtain⟨x,g1,g2,g3⟩:=lM s (show nb (bH t S) K=true from hk)
  exact⟨_,x,g1,g3,by rw[results_tmp hr,g2]⟩
 ·rename_i t u t' u' h1
  have hr:=rF h1
  obtain⟨c1,c2⟩:=aV hc
  have c1:=ako c1
  have c2:=ako c2
  subst c1;subst c2
  obtain⟨x,g1,g2,g3⟩:=lM s (show nb (bH t S) (fun x=>nb (bH u S) fun y=>K (.tup [x,y]))=true from hk)
  obtain⟨y,g4,g5,g6⟩:=lM s (show nb (bH u S) (fun y=>K (.tup [bH t S,y]))=true from g3)
  exact⟨_,.tuple #[x,y],by simp only[den,aO,g1,g4],g6,by rw[results_tmp2 hr,g2,g5]⟩
 ·rename_i t u v t' u' v' h1
  have hr:=rF h1
  obtain⟨c1,c3⟩:=aV hc
  obtain⟨c1,c2⟩:=aV c1
  have c1:=ako c1
  have c2:=ako c2
  have c3:=ako c3
  subst c1;subst c2;subst c3
  obtain⟨x,g1,g2,g3⟩:=lM s (show nb (bH t S) (fun x=>nb (bH u S) fun y=>nb (bH v S) fun z=>K (.tup [x,y,z]))=true from hk)
  obtain⟨y,g4,g5,g6⟩:=lM s (show nb (bH u S) (fun y=>nb (bH v S) fun z=>K (.tup [bH t S,y,z]))=true from g3)
  obtain⟨z,g7,g8,g9⟩:=lM s (show nb (bH v S) (fun z=>K (.tup [bH t S,bH u S,z]))=true from g6)
  refine⟨_,.tuple #[x,y,z],by simp only[den,aO,g1,g4,g7],g9,?_⟩
  simp at g2 g5 g8
  simp[results,hr,g2,g5,g8]
 ·rename_i t agg n t' ty h1
  have hr:=rF h1
  obtain⟨hc,c3⟩:=aV hc
  obtain⟨c1,c2⟩:=aV hc
  rw[decide_eq_true_eq]at c2 c3
  have c1:=ako c1
  subst c1
  obtain⟨x,g1,g2,g3⟩:=lM s (show nb (bH t S) (fun p=>VZ agg n p M K)=true from hk)
  have fin:∀{u:AV} {z:Value},den E ρ u=some z→K u=true→(Instr.loadAt ty x).run P w= .ok z w→∃v z,den E ρ v=some z∧K v=true∧(results fn a.tmps).run P w= .ok z w:=by
   intro u z d1 d2 d3
   refine⟨u,z,d1,d2,?_⟩
   have e1:a.tmps[t]?.getD undef=x:=by simpa using g2
   cases x with
   |pointer p=>
    cases p with
    |some ad=>
     simp only[Instr.loadAt,Instr.sureAddr,Sem.run_bind,Sem.run_pure,Result.andThen_ok]at d3
     simp[results,hr,e1,asAddr,d3]
    |none=>simp[Instr.loadAt,Instr.sureAddr]at d3
   |_=>simp[Instr.loadAt,Instr.sureAddr]at d3
  obtain⟨u,z,d1,d2,d3⟩:=Rs (P:=P) h g1 g3 c2 c3
  exact fin d1 d2 d3
 ·rename_i t agg n v0 t' ty u' h1
  have hr:=rF h1
  obtain⟨hc,c4⟩:=aV hc
  obtain⟨hc,c3⟩:=aV hc
  obtain⟨c1,c2⟩:=aV hc
  rw[decide_eq_true_eq]at c2 c3
  have c1:=ako c1
  subst c1
  have c4:=ako c4
  subst c4
  obtain⟨x,g1,g2,g3⟩:=lM s (show nb (bH t S) (fun p=>VZ agg n p M fun v=>nb (bH v0 S) fun y=>K (.tup [v,y]))=true from hk)
  obtain⟨u,z,d1,d2,d3⟩:=Rs (P:=P) h g1 g3 c2 c3
  obtain⟨y,e1,e2,e3⟩:=lM s d2
  refine⟨_,.tuple #[z,y],by simp only[den,aO,d1,e1],e3,?_⟩
  rw[results_cell_tmp hr,g2,e2]
  cases x with
  |pointer p=>
   cases p with
   |some ad=>
    simp only[Instr.loadAt,Instr.sureAddr,Sem.run_bind,Sem.run_pure,Result.andThen_ok]at d3
    simp[asAddr,d3]
   |none=>simp[Instr.loadAt,Instr.sureAddr]at d3
  |_=>simp[Instr.loadAt,Instr.sureAddr]at d3
 ·cases hc
theorem PY:∀{ps l:List (Nat×Nat)} {M acc:T} {K:T→Bool},xi ps M l acc K=true→∀p∈l,∃o,M.get p.1=some o
 |ps,[],M,acc,K,h,p,hp=>by simp at hp
 |ps,q::l,M,acc,K,h,p,hp=>by
  have h':(dh (M.get q.1) fun o=>dh (fy ps o) fun o'=>T.set bI acc q.2 (some o') fun acc=>xi ps M l acc K)=true:=h
  obtain⟨o,h1,h2⟩:=bF h'
  obtain⟨o',h3,h4⟩:=bF h2
  obtain⟨acc',h5,s1,s2⟩:=T.set_ok _ _ _ _ _ h4
  rcases List.mem_cons.1 hp with rfl|hp
  ·exact⟨o,h1⟩
  ·exact PY h5 p hp
theorem Nu:∀{ps l:List (Nat×Nat)} {M M1 acc:T} {K:T→Bool},(∀j o,acc.get j=some o→(∃i o0,(i,j)∈ps∧M.get i=some o0∧fy ps o0=some o)∨M1.get j=some o)→(∀p∈l,p∈ps)→xi ps M l acc K=true→
  ∃M',K M'=true∧∀j o,M'.get j=some o→(∃i o0,(i,j)∈ps∧M.get i=some o0∧fy ps o0=some o)∨M1.get j=some o
 |ps,[],M,M1,acc,K,ha,_,h=>⟨acc,h,ha⟩
 |ps,p::l,M,M1,acc,K,ha,hl,h=>by
  have h':(dh (M.get p.1) fun o=>dh (fy ps o) fun o'=>T.set bI acc p.2 (some o') fun acc=>xi ps M l acc K)=true:=h
  obtain⟨o,h1,h2⟩:=bF h'
  obtain⟨o',h3,h4⟩:=bF h2
  obtain⟨acc',h5,s1,s2⟩:=T.set_ok _ _ _ _ _ h4
  refine Nu (fun j ob hj=> ?_) (fun q hq=>hl q (by simp[hq])) h5
  by_cases e:j=p.2
  ·subst e
   rw[s1]at hj
   cases hj
   exact .inl ⟨p.1,o,hl p (by simp),h1,h3⟩
  ·rw[s2 j e]at hj
   exact ha j ob hj
theorem Wv:∀{l:List (Nat×Nat)} {M:T} {K:T→Bool},acp l M K=true→∃M',K M'=true∧(∀j o,M'.get j=some o→M.get j=some o∧∀p∈l,p.1≠j)
 |[],M,K,h=>⟨M,h,fun j o hj=>⟨hj,fun p hp=>by simp at hp⟩⟩
 |p::l,M,K,h=>by
  have h':(T.set bI M p.1 none fun M=>acp l M K)=true:=h
  obtain⟨M1,h1,s1,s2⟩:=T.set_ok _ _ _ _ _ h'
  obtain⟨M2,h2,h3⟩:=Wv h1
  refine⟨M2,h2,fun j o hj=> ?_⟩
  obtain⟨q1,q2⟩:=h3 j o hj
  have hne:p.1≠j:=fun e=>by rw[←e,s1]at q1;cases q1
  refine⟨by rw[←s2 j (fun e=>hne e.symm)];exact q1,fun r hr=> ?_⟩
  rcases List.mem_cons.1 hr with rfl|hr
  ·exact hne
  ·exact q2 r hr
theorem aeH {k nx n:Nat} {ps qs:List (Nat×Nat)} (h:ait k nx n ps qs=true):∀q∈qs,q.1<n∧((q.1<k∧(q.2,q.1)∈ps)∨(k≤q.1∧q.2=nx+q.1)):=fun q hq=>by
 have:=List.all_eq_true.1 h q hq
 simp only[Bool.and_eq_true,Bool.or_eq_true,akF,Nat.ble_eq]at this
 obtain⟨h1,h2⟩:=this
 refine⟨h1,?_⟩
 rcases h2 with⟨h2,h3⟩|⟨h2,h3⟩
 ·obtain⟨p,q1,q2⟩:=List.any_eq_true.1 h3
  simp only[Bool.and_eq_true]at q2
  have e1:=ako q2.1
  have e2:=ako q2.2
  have:p=(q.2,q.1):=by cases p;simp_all
  rw[this]at q1
  exact .inl ⟨h2,q1⟩
 ·exact .inr ⟨h2,ako h3⟩
theorem afN (h:Sim E ρ G F M nx w) {k:Nat} {v:AV} {x:Value} {K:AV→T→Nat→Bool} (hd:den E ρ v=some x) (hk:Yq k v M K=true):
  ∃v' M' n' ρ',Sim E ρ' G F M' n' w∧den E ρ' v'=some x∧K v' M' n'=true∧∀i e,i<k→ρ i=some e→ρ' i=some e:=by
 unfold Yq at hk
 rw[PC]at hk
 generalize LP 0 (tb M 200 (Lu k (AH v)) [])=ps at hk
 obtain⟨h1,hk⟩:=aq hk
 obtain⟨h2,hk⟩:=aq hk
 rw[bW]at hk
 obtain⟨h3,hk⟩:=aq hk
 obtain⟨M',h4,h5⟩:=Fg (ps:=ps) (fun j o hj=>by simp[T.get_leaf]at hj) (fun p hp=>hp) hk
 obtain⟨v',h6,h7⟩:=bF h4
 exact⟨v',M',_,kc ps ρ,h.ren h2 (OR h3) h5,mV h2 _ _ _ h6 hd,h7,fun i e q1 q2=>by rw[dR h2 (Hn h1 i q1)];exact q2⟩
def aX (P:Program) (f k:Nat) (sp:aM):Prop:=∀(us:List AV) (xs:List Value) (E:Env) (ρ:Ren) (G:GS) (F:List bo) (M:T) (nx:Nat) (w:World) (K:AV→T→Nat→Bool) (R:Ending→World→Prop),fu E→Sim E ρ G F M nx w→aO E ρ us=some xs→sp us M nx K=true→
 (∀v M' nx' E' ρ' w' z,K v M' nx'=true→fu E'→MLe E.M E'.M→(∀i e,i<k→ρ i=some e→ρ' i=some e)→Sim E' ρ' G F M' nx' w'→den E' ρ' v=some z→R (.returned z) w')→Calls P f xs.toArray w R
theorem Ro {f k:Nat} {sp:aM} (hn:aX P f k sp) {vs:List AV} {xs:List Value} {K:AV→T→Nat→Bool} {R:Ending→World→Prop} (hE:fu E) (h:Sim E ρ G F M nx w) (hd:aO E ρ vs=some xs) (hk:Fk k sp vs M nx K=true)
  (hr:∀v M' nx' E' ρ' w' z,K v M' nx'=true→Ext E ρ E' ρ'→Sim E' ρ' G F M' nx' w'→den E' ρ' v=some z→R (.returned z) w'):Calls P f xs.toArray w R:=by
 classical
 unfold Fk at hk
 rw[PC]at hk
 generalize LP 0 (tb M 200 (HT vs) [])=ps at hk
 obtain⟨h1,hk⟩:=aq hk
 rw[bW]at hk
 obtain⟨h2,hk⟩:=aq hk
 have h2:=OR h2
 obtain⟨us,h3,hk⟩:=bF hk
 have hall:=PY hk
 obtain⟨Ml,hsp,hMl⟩:=Fg (ps:=ps) (fun j o hj=>by simp[T.get_leaf]at hj) (fun p hp=>hp) hk
 obtain⟨c,hh,hob,hinj⟩:=h.ex
 let B:Nat×Obj→Bool:=fun q=>decide (∃p∈ps,∃e o,ρ p.1=some e∧e.b=q.1∧M.get p.1=some o∧cG e o=true)
 have hB:∀q:Nat×Obj,B q=true↔∃p∈ps,∃e o,ρ p.1=some e∧e.b=q.1∧M.get p.1=some o∧cG e o=true:=fun q=>by simp only[B,decide_eq_true_eq]
 have hh1:Holds {G with M:=E.M} w (c.filter B::c.filter (fun q=> !B q)::F):=hh.perm (by
  simp only[akq,←List.append_assoc]
  exact(List.filter_append_perm B c).append_right _)
 have hs:Sim E (kc ps ρ) G (c.filter (fun q=> !B q)::F) Ml ps.length w:=by
  refine⟨⟨c.filter B,hh1,fun j o hj=> ?_,fun j k e f o o' hj hk he hf hb1 hb2 hb=> ?_⟩,h.mem,fun j hj=> ?_⟩
  ·obtain⟨i,o0,g1,g2,g3⟩:=hMl j o hj
   obtain⟨e,a1,q⟩:=hob i o0 g2
   have hHB:=fJ (e:=e) g3
   refine⟨e,by rw[dR h1 g1];exact a1,?_⟩
   rcases q with⟨q1,ob,q2,q3⟩|⟨q1,q2⟩
   ·exact .inl ⟨by rw[hHB.1];exact q1,ob,List.mem_filter.2 ⟨q2,(hB _).2 ⟨(i,j),g1,e,o0,a1,rfl,g2,q1⟩⟩,Hj h1 g3 q3⟩
   ·exact .inr ⟨by rw[hHB.1];exact q1,hHB.2 q2⟩
  ·obtain⟨i,o0,g1,g2,g3⟩:=hMl j o hj
   obtain⟨i',o1,f1,f2,f3⟩:=hMl k o' hk
   rw[dR h1 g1]at he
   rw[dR h1 f1]at hf
   rw[(fJ (e:=e) g3).1]at hb1
   rw[(fJ (e:=f) f3).1]at hb2
   have:=hinj i i' e f o0 o1 g2 f2 he hf hb1 hb2 hb
   subst this
   exact An h1 g1 f1
  ·unfold kc
   split
   ·rename_i p hp
    have q1:=List.mem_of_find?_eq_some hp
    have q2:=List.find?_some hp
    have:=ako q2
    have:=h2 p q1
    omega
   ·rfl
 refine hn us xs E (kc ps ρ) G _ Ml _ w _ R hE hs (qe h1 _ _ _ h3 hd) hsp fun v M' n' E' ρ' w' z kv hE' hm hpin hs' hz=> ?_
 rw[PC]at kv
 generalize ais k nx ps (tb M' 200 (Lu k (AH v)) [])=qs at kv
 obtain⟨g1,kv⟩:=aq kv
 obtain⟨g2,kv⟩:=aq kv
 have g2:=aeH g2
 obtain⟨v',g3,kv⟩:=bF kv
 obtain⟨M1,kv,hM1⟩:=Wv kv
 obtain⟨M2,kv,hM2⟩:=Nu (M1:=M1) (fun j o hj=>.inr hj) (fun p hp=>hp) kv
 rw[bW]at kv
 obtain⟨c',hh',hob',hinj'⟩:=hs'.ex
 let ρo:Ren:=fun i=>if i<nx then ρ i else ρ' (i - nx)
 have lt:∀i e,ρ i=some e→i<nx:=fun i e q=>by
  by_cases q1:i<nx
  ·exact q1
  ·rw[h.fresh i (by omega)]at q;cases q
 have hle:ρ.Le ρo:=fun i e q=>by simp only[ρo,if_pos (lt i e q)];exact q
 have hq:∀j i,(j,i)∈qs→∀e,ρ' j=some e→ρo i=some e:=fun j i hji e he=>by
  obtain⟨q1,⟨q2,q3⟩|⟨q2,q3⟩⟩:=g2 _ hji
  ·obtain⟨o,ho⟩:=hall _ q3
   obtain⟨e0,a1,_⟩:=hob _ _ ho
   have:=hpin j e0 q2 (by rw[dR h1 q3];exact a1)
   rw[this]at he
   cases he
   exact hle _ _ a1
  ·simp only at q2 q3
   have:¬i<nx:=by omega
   simp only[ρo,if_neg this]
   rw[show i - nx=j by omega];exact he
 have hrle:(kc qs ρ').Le ρo:=fun i e q=>by
  unfold kc at q
  split at q
  ·rename_i p hp
   have q1:=List.mem_of_find?_eq_some hp
   have q2:=List.find?_some hp
   have q2:=ako q2
   subst q2
   exact hq p.1 p.2 q1 e q
  ·cases q
 have hEE:GT ρ E ⟨E.at_,E'.M⟩:=⟨fun _ _ _=>rfl,hm⟩
 refine hr v' M2 (nx+n') ⟨E.at_,E'.M⟩ ρo w' z kv ⟨hEE,hle,hE.1,hE'.2⟩ ⟨⟨c'++c.filter (fun q=> !B q),?_,fun id o hid=> ?_,fun i j e f o o' hi hj he hf hb1 hb2 hb=> ?_⟩,hs'.mem,fun i hi=> ?_⟩ (gA hrle _ _ (mV g1 _ _ _ g3 hz))
 ·exact hh'.perm (by simp)
 ·rcases hM2 id o hid with⟨j,o0,p1,p2,p3⟩|p1
  ·obtain⟨e,a1,q⟩:=hob' j o0 p2
   have hHB:=fJ (e:=e) p3
   refine⟨e,hq j id p1 e a1,?_⟩
   rcases q with⟨q1,ob,q2,q3⟩|⟨q1,q2⟩
   ·exact .inl ⟨by rw[hHB.1];exact q1,ob,List.mem_append.2 (.inl q2),(Hj (t2:=E.at_) g1 p3 q3).mono hrle⟩
   ·exact .inr ⟨by rw[hHB.1];exact q1,hHB.2 q2⟩
  ·obtain⟨q1,q2⟩:=hM1 id o p1
   obtain⟨e,a1,q⟩:=hob id o q1
   refine⟨e,hle _ _ a1,?_⟩
   rcases q with⟨r1,ob,r2,r3⟩|r
   ·refine .inl ⟨r1,ob,List.mem_append.2 (.inr (List.mem_filter.2 ⟨r2,?_⟩)),(r3.env hEE).mono hle⟩
    have:¬B (e.b,ob)=true:=fun hb=>by
     obtain⟨p,s1,e2,o2,s2,s3,s4,s5⟩:=(hB _).1 hb
     exact q2 p s1 (hinj p.1 id e2 e o2 o s4 q1 s2 a1 s5 r1 s3)
    simpa using this
   ·exact .inr r
 ·have nd:=hh'.nodup
  simp only[akq,List.map_append]at nd
  have ap:∀b,b∈c'.map (·.1)→b∈(c.filter fun q=> !B q).map (·.1)→False:=fun b b1 b2=>
   (List.nodup_append.1 nd).2.2 b b1 b (List.mem_append.2 (.inl b2)) rfl
  have blkN:∀id o e,(∃j o0,(j,id)∈qs∧M'.get j=some o0∧fy qs o0=some o)→ρo id=some e→cG e o=true→e.b∈c'.map (·.1):=by
   rintro id o e ⟨j,o0,p1,p2,p3⟩ he hb
   obtain⟨e2,a1,q⟩:=hob' j o0 p2
   have:=hq j id p1 e2 a1
   rw[this]at he;cases he
   rcases q with⟨q1,ob,q2,q3⟩|⟨q1,q2⟩
   ·exact List.mem_map.2 ⟨_,q2,rfl⟩
   ·rw[(fJ (e:=e) p3).1,q1]at hb;cases hb
  have blkO:∀id o e,M1.get id=some o→ρo id=some e→cG e o=true→e.b∈(c.filter fun q=> !B q).map (·.1):=by
   intro id o e p1 he hb
   obtain⟨q1,q2⟩:=hM1 id o p1
   obtain⟨e2,a1,q⟩:=hob id o q1
   rw[hle _ _ a1]at he;cases he
   rcases q with⟨r1,ob,r2,r3⟩|⟨r1,r2⟩
   ·refine List.mem_map.2 ⟨_,List.mem_filter.2 ⟨r2,?_⟩,rfl⟩
    have:¬B (e.b,ob)=true:=fun hb=>by
     obtain⟨p,s1,e3,o2,s2,s3,s4,s5⟩:=(hB _).1 hb
     exact q2 p s1 (hinj p.1 id e3 e o2 o s4 q1 s2 a1 s5 r1 s3)
    simpa using this
   ·rw[r1]at hb;cases hb
  rcases hM2 i o hi with m1|m1<;>rcases hM2 j o' hj with m2|m2
  ·obtain⟨j1,o1,p1,p2,p3⟩:=m1
   obtain⟨j2,o2,r1,r2,r3⟩:=m2
   obtain⟨e1,a1,_⟩:=hob' j1 o1 p2
   obtain⟨e2,a2,_⟩:=hob' j2 o2 r2
   have x1:=hq _ _ p1 _ a1
   have x2:=hq _ _ r1 _ a2
   rw[x1]at he;cases he
   rw[x2]at hf;cases hf
   rw[(fJ (e:=e) p3).1]at hb1
   rw[(fJ (e:=f) r3).1]at hb2
   have:=hinj' j1 j2 e f o1 o2 p2 r2 a1 a2 hb1 hb2 hb
   subst this
   exact An g1 p1 r1
  ·exact(ap _ (blkN i o e m1 he hb1) (by rw[hb];exact blkO j o' f m2 hf hb2)).elim
  ·exact(ap _ (blkN j o' f m2 hf hb2) (by rw[←hb];exact blkO i o e m1 he hb1)).elim
  ·obtain⟨q1,_⟩:=hM1 i o m1
   obtain⟨q2,_⟩:=hM1 j o' m2
   obtain⟨e1,a1,_⟩:=hob i o q1
   obtain⟨e2,a2,_⟩:=hob j o' q2
   rw[hle _ _ a1]at he;cases he
   rw[hle _ _ a2]at hf;cases hf
   exact hinj i j e f o o' q1 q2 a1 a2 hb1 hb2 hb
 ·have:¬i<nx:=by omega
  simp only[ρo,if_neg this]
  exact hs'.fresh _ (by omega)
theorem VF (hm:P.follows .mixedOrders=true) {cf:iB} (hcf:jF P cf) {lp:gB} {lf:Nat} {fl:Bool} {pk:Nat} {f N:Nat} {res:XRes} {body:XC} (hf:aW P f (.mk N res body)=true) (hfl:fl=true→plain body=true) (hkp:fG pk body=true) (hlp:∀b j x,(b,j,x)∈fk body→dp P N pk lp b j x)
  {vs:List AV} {xs:List Value} (hE:fu E) (h:Sim E ρ G F M nx w) (hd:aO E ρ vs=some xs) {K:AV→T→Nat→Bool} {R:Ending→World→Prop}
  (h2:ac (Nat.ble (dN vs) N) (Fz vs 0 .nil fun S=>cC cf lp lf body S M nx fun e S M nx=>br (Nat.blt 1 e) false (PX res S M fun v=>K v M nx))=true)
  (hr:∀v M' nx' E' ρ' w' z,K v M' nx'=true→Rel fl pk E ρ E' ρ'→Sim E' ρ' G F M' nx' w'→den E' ρ' v=some z→R (.returned z) w'):Calls P f xs.toArray w R:=by
 unfold aW at hf
 split at hf
 case h_2=>cases hf
 rename_i N' res' body' fn hx hfn
 cases hx
 split at hf
 case h_2=>cases hf
 rename_i c hb
 obtain⟨hf,c3⟩:=aV hf
 obtain⟨c1,c2⟩:=aV hf
 have c1:=ako c1
 obtain⟨h3,h4⟩:=aq h2
 rw[Nat.ble_eq,cF]at h3
 have hlen:=cL hd
 refine calls_of_wp hfn hb ?_
 have hsz:(xs.toArray++Array.replicate (fn.ntmps - xs.toArray.size) undef).size=N:=by simp;omega
 obtain⟨S,s,h5⟩:=TM (a:={tmps:=xs.toArray++Array.replicate (fn.ntmps - xs.toArray.size) undef,defers:=[]}) (N:=N) hd (fun i x hi=>by
  have hlt:=(List.getElem?_eq_some_iff.1 hi).1
  have hv:=(List.getElem?_eq_some_iff.1 hi).2
  simp only[Nat.zero_add,Array.getD,hsz]
  rw[dif_pos (by omega)]
  simp[Array.getElem_append,hlt,hv]) (SR.nil hsz rfl) h4
 refine IV hm hcf body c hE hfl hkp hlp c3 s h h5 fun e S' M' nx' E' ρ' a' w' k1 k2 k3 k4=> ?_
 rcases bk k1 with⟨_,g1⟩|⟨q,g1⟩
 ·cases g1
 ·obtain⟨v,z,r1,r2,r3⟩:=aeE k3 k4 c2 g1
  have hR:=hr v M' nx' E' ρ' w' z r2 k2 k4 r1
  match e,q with
  |0,_=>exact⟨k3.defs,z,r3,hR⟩
  |1,_=>exact⟨k3.defs,z,r3,hR⟩
  |n+2,q=>
   have:Nat.blt 1 (n+2)=true:=by rw[akF];omega
   rw[this]at q;cases q
theorem Tz (hm:P.follows .mixedOrders=true) {tab:Nat→Option XF} {nat:Nat→List AV→Option ES} {lp:gB} {lf:Nat} (htab:∀f xf,tab f=some xf→aW P f xf=true∧plain (lu xf)=true) (hnat:∀f vs k sp,nat f vs=some (.mk k sp)→aX P f k sp):∀d,jF P (Yr tab nat lp lf d)
 |0=>by
  intro f vs M nx K E ρ G F w xs R hE h hd hk hr
  have hk':(Option.casesOn (nat f vs) false fun es=>ES.casesOn es fun k sp=>Fk k sp vs M nx K:Bool)=true:=hk
  rcases e:nat f vs with _|⟨k,sp⟩
  ·rw[e]at hk';cases hk'
  ·rw[e]at hk'
   exact Ro (hnat f vs k sp e) hE h hd hk' hr
 |d+1=>by
  intro f vs M nx K E ρ G F w xs R hE h hd hk hr
  have hk':(Option.casesOn (nat f vs) (dh (tab f) fun xf=>XF.casesOn xf fun N res body=>
   ac (Nat.ble (dN vs) N) (Fz vs 0 .nil fun S=>cC (Yr tab nat lp lf d) lp lf body S M nx fun e S M nx=>br (Nat.blt 1 e) false (PX res S M fun v=>K v M nx))) fun es=>ES.casesOn es fun k sp=>Fk k sp vs M nx K:Bool)=true:=hk
  rcases e:nat f vs with _|⟨k,sp⟩
  ·rw[e]at hk'
   obtain⟨xf,h1,h2⟩:=bF hk'
   obtain⟨hf,hp⟩:=htab f xf h1
   obtain⟨N,res,body⟩:=xf
   have hno:∀{x:XC},plain x=true→fk x=[]:=by
    intro x
    induction x with
    |seq x y ihx ihy=>intro q;obtain⟨q1,q2⟩:=aV (show(plain x&&plain y)=true from q);simp[fk,ihx q1,ihy q2]
    |cond p x y ihx ihy=>intro q;obtain⟨q1,q2⟩:=aV (show(plain x&&plain y)=true from q);simp[fk,ihx q1,ihy q2]
    |block k x ih=>exact fun q=>ih q
    |loop l x ih=>exact fun q=>ih q
    |inv=>intro q;cases q
    |aft=>intro q;cases q
    |pre=>intro q;cases q
    |spc=>intro q;cases q
    |_=>intro _;rfl
   have hk0:∀{x:XC},plain x=true→fG 0 x=true:=by
    intro x
    induction x with
    |seq x y ihx ihy=>intro q;obtain⟨q1,q2⟩:=aV (show(plain x&&plain y)=true from q);simp[fG,ihx q1,ihy q2]
    |cond p x y ihx ihy=>intro q;obtain⟨q1,q2⟩:=aV (show(plain x&&plain y)=true from q);simp[fG,ihx q1,ihy q2]
    |block k x ih=>exact fun q=>ih q
    |loop l x ih=>exact fun q=>ih q
    |inv=>intro q;cases q
    |aft=>intro q;cases q
    |pre=>intro q;cases q
    |spc=>intro q;cases q
    |_=>intro _;rfl
   exact VF (fl:=true) (pk:=0) hm (Tz hm htab hnat d) hf (fun _=>hp) (hk0 hp) (fun b j x q=>by rw[hno (x:=body) hp]at q;cases q) hE h hd h2 fun v M' nx' E' ρ' w' z q1 q2=>hr v M' nx' E' ρ' w' z q1 (q2.ext rfl)
  ·rw[e]at hk'
   exact Ro (hnat f vs k sp e) hE h hd hk' hr
theorem aeR (hm:P.follows .mixedOrders=true) {cf:iB} (hcf:jF P cf) {lp:gB} {lf f k:Nat} {xf:XF} {sp:aM} (hf:aW P f xf=true) (hkp:fG k (lu xf)=true) (hlp:∀b j x,(b,j,x)∈fk (lu xf)→dp P (nOf xf) k lp b j x) (hrun:∀us M nx K,sp us M nx K=true→aY k cf lp lf xf us M nx K=true):aX P f k sp:=by
 intro us xs E ρ G F M nx w K R hE hs hd hk hr
 obtain⟨N,res,body⟩:=xf
 refine VF (fl:=false) (pk:=k) (K:=fun v M _=>Yq k v M K) (G:=G) hm hcf hf (fun q=>by cases q) hkp hlp hE hs hd (hrun us M nx K hk) fun v M' nx' E' ρ' w' z q1 q2 q3 q4=> ?_
 obtain⟨v2,M2,n2,ρ2,f1,f2,f3,f4⟩:=afN q3 q4 q1
 exact hr v2 M2 n2 E' ρ2 w' z f3 q2.one q2.mem (fun i e i1 i2=>f4 i e i1 (q2.pin i e i1 i2)) f1 f2
theorem gD (hm:P.follows .mixedOrders=true) {cf:iB} (hcf:jF P cf) {lp:gB} {lf j:Nat} {x:XC} (hkp:fG pk x=true) {α:Type _} (I:α→SL×T×Nat) (μ:α→Nat) (spec:α→KC→Bool) (hlp:∀b j' x',(b,j',x')∈fk x→dp P N pk lp b j' x')
  (hj:∀S M nx K,lp j S M nx K=true→∃p,(S,M,nx)=I p∧spec p K=true)
  (hbody:∀p K,spec p K=true→cC cf lp lf x (I p).1 (I p).2.1 (I p).2.2 (fun e S M nx=>Nat.casesOn e (ax fun p'=>ac (aF ((S,M,nx)=I p'∧μ p'<μ p)) (spec p' K)) (fun e'=>K (Nat.succ e') S M nx))=true):dp P N pk lp true j x:=by
 intro c S M nx E ρ G F a w K Q hE hc s h hk hq
 obtain⟨p,hp,hs⟩:=hj S M nx K hk
 have key:∀(n:Nat) (p:α),μ p<n→∀{S:SL} {M:T} {nx:Nat} {E:Env} {ρ:Ren} {a:Act} {w:World},(S,M,nx)=I p→spec p K=true→fu E→SR E ρ N S a→Sim E ρ G F M nx w→
   (∀e S' M' nx' E' ρ' a' w',K e S' M' nx'=true→Rel false pk E ρ E' ρ'→SR E' ρ' N S' a'→Sim E' ρ' G F M' nx' w'→Q (Mh e) a' w')→Code.rounds P c Q n a w:=by
  intro n
  induction n with
  |zero=>intro p hn;omega
  |succ n ih=>
   intro p hn S M nx E ρ a w hI hs hE s h hq
   have hb:=hbody p K hs
   rw[←hI]at hb
   refine IV (fl:=false) hm hcf x c hE (fun q=>by cases q) hkp hlp hc s h hb fun e S' M' nx' E' ρ' a' w' k1 k2 k3 k4=> ?_
   match e,k1 with
   |0,k1=>
    obtain⟨p',k5⟩:=bJ k1
    obtain⟨⟨k6,k7⟩,k8⟩:=ae k5
    exact ih p' (by omega) k6 k8 k2.one k3 k4 fun e S2 M2 nx2 E2 ρ2 a2 w2 j1 j2=>hq e _ _ _ _ _ _ _ j1 (k2.trans j2)
   |1,k1=>exact hq 1 _ _ _ _ _ _ _ k1 k2 k3 k4
   |m+2,k1=>exact hq (m+2) _ _ _ _ _ _ _ k1 k2 k3 k4
 exact wp_loop_rounds (μ p+1) (key (μ p+1) p (Nat.lt_succ_self _) hp hs hE s h hq)
theorem mO (hm:P.follows .mixedOrders=true) {cf:iB} (hcf:jF P cf) {lp:gB} {lf j:Nat} {x:XC} (hkp:fG pk x=true) (hlp:∀b j' x',(b,j',x')∈fk x→dp P N pk lp b j' x') (hrun:∀S M nx K,lp j S M nx K=true→cC cf lp lf x S M nx K=true):dp P N pk lp false j x:=by
 intro c S M nx E ρ G F a w K Q hE hc s h hk hq
 exact IV (fl:=false) hm hcf x c hE (fun q=>by cases q) hkp hlp hc s h (hrun S M nx K hk) hq
end
noncomputable def shp (v:AV):Nat:=AV.casesOn v 0 (fun _ _=>1) (fun _=>2) (fun _=>3) (fun _ _=>4) (fun _ _ _ _=>5) (fun _=>6) 7 8 9 10 11 (fun _ _=>12) (fun _ _=>13) (fun _=>14) (fun _=>15) (fun _=>16) (fun _=>17) (fun s=>SY.casesOn s (fun _ _=>20) (fun _=>21) (fun _=>22) (fun _ _ _ _ _=>23) (fun _ _ _=>24) (fun _ _=>25) (fun _ _ _ _ _ _=>26) (fun _ _ _ _=>27) (fun _ _ _=>28) (fun _=>29))
noncomputable def ajR (vs:List AV) (n:Nat):Nat:=Option.casesOn (dV vs n) 0 shp
noncomputable def aj4 (vs:List AV) (l:List (Nat×Nat)):Bool:=List.rec true (fun p _ ih=>Bool.rec false ih (Nat.beq (ajR vs p.1) p.2)) l
noncomputable def XQ (f g:Nat) (vs:List AV) (l:List (Nat×Nat)):Bool:=Bool.rec false (aj4 vs l) (Nat.beq f g)
theorem abS {P:Program} {f g k k0:Nat} {vs:List AV} {sp sp0:aM} {rest:Option ES} {l:List (Nat×Nat)} (h0:aX P g k0 sp0) (hr:rest=some (.mk k sp)→aX P f k sp) (h:(Bool.rec rest (some (ES.mk k0 sp0)) (XQ f g vs l):Option ES)=some (.mk k sp)):aX P f k sp:=by
 cases hb:XQ f g vs l with
 |false=>rw[hb]at h;exact hr h
 |true=>
  rw[hb]at h
  cases h
  unfold XQ at hb
  cases he:Nat.beq f g with
  |false=>rw[he]at hb;cases hb
  |true=>rw[ako he];exact h0
theorem bZ {P:Program} {N k:Nat} {lp:gB} {b b0:Bool} {j j0:Nat} {x x0:XC} {l:List (Bool×Nat×XC)} (h0:dp P N k lp b0 j0 x0) (hr:(b,j,x)∈l→dp P N k lp b j x) (h:(b,j,x)∈(b0,j0,x0)::l):dp P N k lp b j x:=by
 rcases List.mem_cons.1 h with e|h
 ·injection e with e1 e2
  injection e2 with e3 e4
  subst e1;subst e3;subst e4
  exact h0
 ·exact hr h
theorem aA {p:Prop} {x y:Bool} (hp:p) (h:br (aF p) x y=true):x=true:=by
 rcases iM h with⟨_,h⟩|⟨q,_⟩
 ·exact h
 ·exact absurd hp q
end Go.Sy
namespace Go.Proofs.Tryz
open Go Go.RowKit Go.Eng Go.Sy
set_option maxRecDepth 100000
def p_ (i d:Nat) (x:XO):XSt:=.p i (some d) none x
def am (i d t:Nat) (b:Bool) (x:XO):XSt:=.p i (some d) (some (t,b)) x
def r_ (i d:Nat) (x:XO):XSt:=.r i (some d) none x
def aU (i d t:Nat) (b:Bool) (x:XO):XSt:=.r i (some d) (some (t,b)) x
def e_ (i d:Nat) (x:XO):XSt:=.e i (some d) none x
def bm (i:Nat) (x:XO):XSt:=.e i none none x
def c_ (i d f:Nat) (xs:List XP):XSt:=.c i (some d) none f xs
def da (i d t:Nat) (b:Bool) (f:Nat) (xs:List XP):XSt:=.c i (some d) (some (t,b)) f xs
def a_ (i d:Nat) (x:XO):XSt:=.a i d none x
def ag_ (i d t:Nat) (b:Bool) (x:XO):XSt:=.a i d (some (t,b)) x
def m_ (n:Nat):XO:=.mv (.t n)
def n_ (n:Nat):XO:=.nck (.t n)
def f_ (k n:Nat):XO:=.fa k (.t n)
def l_ (n:Nat):XO:=.ld false 1 (.t n)
def k_ (n:Nat):XO:=.len 1 (.t n)
def i_ (n:Nat):XP:=.c (.int 0 (.ofNat n))
def o_ (n:Nat):AV:=.int 0 (.ofNat n)
def g_ (n:Nat) (l:List XSt):XC:=.reg false n (.leaf l)
def h_ (n:Nat) (l:List XSt):XC:=.reg true n (.leaf l)
def aN (f:Nat) (x:XF):Prop:=aW Tryz.prog f x=true∧plain (lu x)=true
def ah5:XF:=.mk 19 (.one 2) (.seq (g_ 1 [p_ 0 2 (.mv (i_ 0))]) (.seq (.block 2 (.seq (g_ 3 [p_ 0 4 (m_ 0),c_ 1 5 32 [.t 4],p_ 2 3 (m_ 5)]) (.cond (.t 3) (.seq (g_ 1 [p_ 0 2 (.mv (i_ 0))]) .ret) (.seq (g_ 3 [p_ 0 7 (m_ 0),c_ 1 8 19 [.t 7],p_ 2 6 (m_ 8)]) (.cond (.t 6) (.seq (g_ 7 [p_ 0 9 (m_ 0),p_ 1 10 (n_ 9),p_ 2 11 (f_ 0 10),p_ 3 12 (f_ 3 11),r_ 4 13 (l_ 12),c_ 5 14 33 [.t 13],p_ 6 2 (m_ 14)]) .ret) .skip))))) (.seq (g_ 5 [p_ 0 15 (m_ 0),p_ 1 16 (n_ 15),p_ 2 17 (f_ 20 16),r_ 3 18 (l_ 17),p_ 4 2 (m_ 18)]) .ret)))
theorem ah4:aN 12 ah5:=⟨by kernel_rfl,by kernel_rfl⟩
def ah3:XF:=.mk 20 (.one 2) (.seq (g_ 1 [p_ 0 2 (.mv (.c .nilS))]) (.seq (.block 2 (.seq (g_ 3 [p_ 0 4 (m_ 0),c_ 1 5 32 [.t 4],p_ 2 3 (m_ 5)]) (.cond (.t 3) (.seq (g_ 1 [p_ 0 2 (.mv (.c .nilS))]) .ret) (.seq (g_ 3 [p_ 0 7 (m_ 0),c_ 1 8 19 [.t 7],p_ 2 6 (m_ 8)]) (.cond (.t 6) (.seq (g_ 7 [p_ 0 9 (m_ 0),p_ 1 10 (n_ 9),p_ 2 11 (f_ 0 10),p_ 3 12 (f_ 3 11),r_ 4 13 (l_ 12),c_ 5 14 34 [.t 13],p_ 6 2 (m_ 14)]) .ret) .skip))))) (.seq (g_ 6 [p_ 0 15 (m_ 0),p_ 1 16 (n_ 15),p_ 2 17 (f_ 18 16),r_ 3 18 (l_ 17),c_ 4 19 35 [.t 18],p_ 5 2 (m_ 19)]) .ret)))
theorem ah2:aN 13 ah3:=⟨by kernel_rfl,by kernel_rfl⟩
def ah1:XF:=.mk 8 (.one 4) (.seq (g_ 1 [p_ 0 4 (.mv (.c (.bool false)))]) (.seq (g_ 4 [p_ 0 5 (m_ 0),p_ 1 6 (m_ 1),c_ 2 7 36 [(.t 5),(.t 6),(.f 37)],p_ 3 4 (m_ 7)]) .ret))
theorem ah0:aN 14 ah1:=⟨by kernel_rfl,by kernel_rfl⟩
def ahZ:XF:=.mk 13 (.cell 2 true 3) (.seq (g_ 1 [e_ 0 2 (.al 45 [(.int 1 (.ofNat 0)),(.int 3 (.ofNat 0)),.nilS])]) (.seq (.seq (g_ 3 [p_ 0 3 (m_ 0),c_ 1 4 19 [.t 3],p_ 2 5 (.un 0 (.t 4))]) (.cond (.t 5) (.seq (g_ 2 [p_ 0 6 (.bld [(.int 1 (.ofNat 0)),(.int 3 (.ofNat 0)),.nilS] [] []),bm 1 (.st 3 (.t 2) (.t 6))]) .ret) .skip)) (.seq (g_ 7 [p_ 0 7 (m_ 0),p_ 1 8 (n_ 7),p_ 2 9 (f_ 0 8),p_ 3 10 (f_ 0 9),r_ 4 11 (.ld true 3 (.t 10)),c_ 5 12 38 [.t 11],bm 6 (.st 3 (.t 2) (.t 12))]) .ret)))
theorem ahY:aN 16 ahZ:=⟨by kernel_rfl,by kernel_rfl⟩
def ahX:XF:=.mk 15 (.one 2) (.seq (g_ 1 [p_ 0 2 (.mv (.c (.bool false)))]) (.seq (g_ 13 [p_ 0 3 (m_ 0),c_ 1 4 32 [.t 3],p_ 2 5 (.un 0 (.t 4)),p_ 3 6 (m_ 5),am 4 7 6 true (m_ 0),am 5 8 6 true (n_ 7),am 6 9 6 true (f_ 0 8),am 7 10 6 true (f_ 0 9),am 8 11 6 true (f_ 1 10),aU 9 12 6 true (l_ 11),am 10 13 6 true (.bin 3 2 (.t 12) (.c (.int 3 (.ofNat 0)))),p_ 11 14 (.pick (.t 6) (.t 13) (.c (.bool false))),p_ 12 2 (m_ 14)]) .ret))
theorem ahW:aN 19 ahX:=⟨by kernel_rfl,by kernel_rfl⟩
def ahV:XF:=.mk 6 (.cell 2 true 2) (.seq (g_ 1 [e_ 0 2 (.al 52 [(.int 1 (.ofNat 0)),(.int 2 (.ofNat 0))])]) (.seq (g_ 4 [p_ 0 3 (m_ 0),p_ 1 4 (.cnv 1 (.t 3)),p_ 2 5 (.bld [(.int 1 (.ofNat 0)),(.int 2 (.ofNat 0))] [(0,1),(1,1)] [(.t 4),(.c (.int 2 (.ofNat 1)))]),bm 3 (.st 2 (.t 2) (.t 5))]) .ret))
theorem ahU:aN 21 ahV:=⟨by kernel_rfl,by kernel_rfl⟩
def ahT:XF:=.mk 26 (.one 2) (.seq (g_ 1 [p_ 0 2 (.mv (.c (.bool false)))]) (.seq (h_ 24 [p_ 0 3 (m_ 0),c_ 1 4 19 [.t 3],p_ 2 5 (m_ 4),am 3 6 5 true (m_ 0),am 4 7 5 true (n_ 6),am 5 8 5 true (f_ 0 7),am 6 9 5 true (f_ 0 8),aU 7 10 5 true (.ld true 3 (.t 9)),am 9 12 5 true (m_ 0),am 10 13 5 true (n_ 12),am 11 14 5 true (f_ 8 13),aU 12 15 5 true (.ld true 2 (.t 14)),da 8 11 5 true 41 [.t 10],ag_ 12 15 5 true (.ld true 2 (.t 14)),am 13 16 5 true (.eqs false 2 (.st [(0,1,false,.int),(1,1,false,.int)]) (.t 11) (.t 15)),p_ 14 17 (.pick (.t 5) (.t 16) (.c (.bool false))),p_ 15 18 (m_ 17),am 16 19 18 true (m_ 0),am 17 20 18 true (n_ 19),am 18 21 18 true (f_ 0 20),am 19 22 18 true (f_ 3 21),aU 20 23 18 true (l_ 22),da 21 24 18 true 42 [.t 23],p_ 22 25 (.pick (.t 18) (.t 24) (.c (.bool false))),p_ 23 2 (m_ 25)]) .ret))
theorem ahS:aN 22 ahT:=⟨by kernel_rfl,by kernel_rfl⟩
def ahR:XF:=.mk 35 (.one 6) (.seq (g_ 2 [e_ 0 4 (.box 52 (.t 1)),p_ 1 6 (.mv (.c .nilP))]) (.seq (g_ 9 [p_ 0 11 (m_ 0),p_ 1 12 (m_ 2),c_ 2 13 43 [(.t 11),(.t 12)],p_ 3 10 (m_ 13),p_ 4 14 (.ext 0 (.t 10)),p_ 5 15 (.ext 1 (.t 10)),e_ 6 7 (.al 45 [(.int 1 (.ofNat 0)),(.int 3 (.ofNat 0)),.nilS]),bm 7 (.st 3 (.t 7) (.t 14)),p_ 8 8 (m_ 15)]) (.seq (.seq (g_ 7 [p_ 0 16 (m_ 8),p_ 1 17 (.bin 3 5 (.t 16) (i_ 0)),p_ 2 18 (m_ 17),aU 3 19 18 false (.ld true 2 (.t 4)),da 4 20 18 false 44 [.t 19],am 5 21 18 false (.un 0 (.t 20)),p_ 6 22 (.pick (.t 18) (.c (.bool true)) (.t 21))]) (.cond (.t 22) (.seq (g_ 1 [p_ 0 6 (.mv (.c .nilP))]) .ret) .skip)) (.seq (g_ 5 [p_ 0 23 (m_ 0),r_ 1 24 (.ld true 2 (.t 4)),p_ 2 25 (.bld [(.int 1 (.ofNat 0)),(.int 3 (.ofNat 0)),.nilS,.nilP,.nilP,.nilP,(o_ 0),(.int 1 (.ofNat 0)),(.int 1 (.ofNat 0)),(.int 2 (.ofNat 0)),.nilS,.nilS,.nilS,.nilS,(.bool false),(.int 3 (.ofNat 0)),(.int 3 (.ofNat 0)),(o_ 0),.nilS,.nilS,(o_ 0)] [(7,1),(8,2)] [(.t 23),(.t 24)]),e_ 3 26 (.box 86 (.t 25)),p_ 4 9 (m_ 26)]) (.seq (.seq (g_ 4 [r_ 0 27 (.ld true 3 (.t 7)),r_ 1 28 (.ld true 2 (.t 4)),c_ 2 29 45 [(.t 27),(.t 28)],p_ 3 30 (.bin 3 3 (.t 29) (i_ 0))]) (.cond (.t 30) (g_ 3 [p_ 0 31 (m_ 9),r_ 1 32 (.ld true 3 (.t 7)),c_ 2 33 46 [(.t 31),(i_ 0),(.t 32),(.c .nilS)]]) .skip)) (.seq (g_ 2 [p_ 0 34 (m_ 9),p_ 1 6 (m_ 34)]) .ret))))))
theorem ahQ:aN 23 ahR:=⟨by kernel_rfl,by kernel_rfl⟩
def ahP:XF:=.mk 19 (.one 4) (.seq (g_ 2 [e_ 0 3 (.box 68 (.t 1)),p_ 1 4 (.mv (i_ 0))]) (.seq (.block 2 (.seq (g_ 3 [p_ 0 6 (m_ 0),c_ 1 7 32 [.t 6],p_ 2 5 (m_ 7)]) (.cond (.t 5) (.seq (g_ 1 [p_ 0 4 (.mv (i_ 1))]) .ret) (.seq (g_ 4 [p_ 0 9 (m_ 0),c_ 1 10 19 [.t 9],p_ 2 11 (.un 0 (.t 10)),p_ 3 8 (m_ 11)]) (.cond (.t 8) (.seq (g_ 1 [p_ 0 4 (.mv (i_ 15))]) .ret) .skip))))) (.seq (h_ 8 [p_ 0 12 (m_ 0),p_ 1 13 (n_ 12),p_ 2 14 (f_ 0 13),p_ 3 15 (f_ 3 14),r_ 4 16 (l_ 15),r_ 5 17 (.ld true 18 (.t 3)),c_ 6 18 47 [(.t 16),(.t 17)],p_ 7 4 (m_ 18)]) .ret)))
theorem ahO:aN 24 ahP:=⟨by kernel_rfl,by kernel_rfl⟩
def ahN:XF:=.mk 12 (.cell 2 true 18) (.seq (g_ 1 [e_ 0 2 (.al 68 [(.int 1 (.ofNat 0)),(.int 1 (.ofNat 0)),(.int 2 (.ofNat 0)),(.int 3 (.ofNat 0)),(.int 1 (.ofNat 0)),(.int 1 (.ofNat 0)),(.int 1 (.ofNat 0)),(.int 1 (.ofNat 0)),(.int 1 (.ofNat 0)),(.int 1 (.ofNat 0)),(.int 1 (.ofNat 0)),(.int 3 (.ofNat 0)),.nilS,(.int 1 (.ofNat 0)),(.str []),.nilS,(.int 1 (.ofNat 0)),(.int 2 (.ofNat 0))])]) (.seq (g_ 10 [p_ 0 3 (m_ 0),p_ 1 4 (.bin 0 4 (.t 3) (i_ 16)),p_ 2 5 (.cnv 1 (.t 4)),p_ 3 6 (m_ 0),p_ 4 7 (.bin 0 3 (.t 6) (i_ 16)),p_ 5 8 (.bin 0 0 (i_ 1) (.t 7)),p_ 6 9 (.cnv 2 (.t 8)),p_ 7 10 (.bld [(.int 1 (.ofNat 0)),(.int 2 (.ofNat 0))] [(0,1),(1,1)] [(.t 5),(.t 9)]),p_ 8 11 (.bld [(.int 1 (.ofNat 0)),(.int 1 (.ofNat 0)),(.int 2 (.ofNat 0)),(.int 3 (.ofNat 0)),(.int 1 (.ofNat 0)),(.int 1 (.ofNat 0)),(.int 1 (.ofNat 0)),(.int 1 (.ofNat 0)),(.int 1 (.ofNat 0)),(.int 1 (.ofNat 0)),(.int 1 (.ofNat 0)),(.int 3 (.ofNat 0)),.nilS,(.int 1 (.ofNat 0)),(.str []),.nilS,(.int 1 (.ofNat 0)),(.int 2 (.ofNat 0))] [(0,1),(16,2)] [(.c (.int 1 (.ofNat 2))),(.t 10)]),bm 9 (.st 18 (.t 2) (.t 11))]) .ret))
theorem ahM:aN 25 ahN:=⟨by kernel_rfl,by kernel_rfl⟩
def ahL:XF:=.mk 4 (.one 2) (.seq (g_ 1 [p_ 0 2 (.mv (i_ 0))]) (.seq (g_ 2 [p_ 0 3 (m_ 0),p_ 1 2 (m_ 3)]) .ret))
theorem ahK:aN 26 ahL:=⟨by kernel_rfl,by kernel_rfl⟩
def ahJ:XF:=.mk 12 .none (.seq (g_ 3 [p_ 0 4 (m_ 0),c_ 1 5 32 [.t 4],p_ 2 6 (.un 0 (.t 5))]) (.cond (.t 6) (g_ 6 [p_ 0 7 (m_ 0),p_ 1 8 (m_ 1),c_ 2 9 48 [.t 8],p_ 3 10 (n_ 7),p_ 4 11 (f_ 10 10),bm 5 (.st 1 (.t 11) (.t 9))]) .skip))
theorem ahI:aN 27 ahJ:=⟨by kernel_rfl,by kernel_rfl⟩
def ahH:XF:=.mk 34 .none (.seq (g_ 8 [p_ 0 4 (m_ 0),p_ 1 5 (n_ 4),p_ 2 6 (f_ 3 5),r_ 3 7 (l_ 6),p_ 4 8 (.bin 0 0 (.t 7) (i_ 1)),p_ 5 9 (n_ 4),p_ 6 10 (f_ 3 9),bm 7 (.st 1 (.t 10) (.t 8))]) (.seq (g_ 8 [p_ 0 11 (m_ 0),p_ 1 12 (n_ 11),p_ 2 13 (f_ 1 12),r_ 3 14 (l_ 13),p_ 4 15 (m_ 1),p_ 5 16 (.ixs 1 (.t 14) (.t 15)),r_ 6 17 (l_ 16),p_ 7 18 (.un 0 (.t 17))]) (.cond (.t 18) (h_ 15 [p_ 0 19 (m_ 0),p_ 1 20 (m_ 1),p_ 2 21 (m_ 0),p_ 3 22 (n_ 21),p_ 4 23 (f_ 0 22),r_ 5 24 (l_ 23),p_ 6 25 (m_ 1),p_ 7 26 (.ixs 1 (.t 24) (.t 25)),r_ 8 27 (l_ 26),p_ 9 28 (m_ 0),p_ 10 29 (n_ 28),p_ 11 30 (f_ 3 29),r_ 12 31 (l_ 30),c_ 13 32 50 [(.t 27),(.t 31)],c_ 14 33 49 [(.t 19),(.t 20),(.t 32)]]) .skip)))
theorem ahG:aN 28 ahH:=⟨by kernel_rfl,by kernel_rfl⟩
def ahF:XF:=.mk 24 (.one 4) (.seq (g_ 3 [e_ 0 2 (.box 45 (.t 0)),e_ 1 3 (.box 45 (.t 1)),p_ 2 4 (.mv (.c (.bool false)))]) (.seq (g_ 20 [p_ 0 5 (f_ 0 2),r_ 1 6 (l_ 5),p_ 2 7 (f_ 0 3),r_ 3 8 (l_ 7),p_ 4 9 (.bin 3 4 (.t 6) (.t 8)),p_ 5 10 (m_ 9),am 6 11 10 true (f_ 1 2),aU 7 12 10 true (l_ 11),am 8 13 10 true (f_ 1 3),aU 9 14 10 true (l_ 13),am 10 15 10 true (.bin 3 4 (.t 12) (.t 14)),p_ 11 16 (.pick (.t 10) (.t 15) (.c (.bool false))),p_ 12 17 (m_ 16),am 13 18 17 true (f_ 2 2),aU 14 19 17 true (l_ 18),am 15 20 17 true (f_ 2 3),aU 16 21 17 true (l_ 20),da 17 22 17 true 52 [(.t 19),(.t 21)],p_ 18 23 (.pick (.t 17) (.t 22) (.c (.bool false))),p_ 19 4 (m_ 23)]) .ret))
theorem ahE:aN 30 ahF:=⟨by kernel_rfl,by kernel_rfl⟩
def ahD:XF:=.mk 13 (.one 2) (.seq (g_ 1 [p_ 0 2 (.mv (.c (.bool false)))]) (.seq (g_ 11 [p_ 0 3 (m_ 0),p_ 1 4 (.isn false 1 (.t 3)),p_ 2 5 (m_ 4),am 3 6 5 false (m_ 0),am 4 7 5 false (n_ 6),am 5 8 5 false (f_ 8 7),aU 6 9 5 false (.ld true 2 (.t 8)),da 7 10 5 false 44 [.t 9],am 8 11 5 false (.un 0 (.t 10)),p_ 9 12 (.pick (.t 5) (.c (.bool true)) (.t 11)),p_ 10 2 (m_ 12)]) .ret))
theorem ahC:aN 32 ahD:=⟨by kernel_rfl,by kernel_rfl⟩
def ahB:XF:=.mk 9 (.one 2) (.seq (g_ 1 [p_ 0 2 (.mv (i_ 0))]) (.seq (.seq (g_ 2 [p_ 0 3 (m_ 0),c_ 1 4 53 [.t 3]]) (.cond (.t 4) (.seq (g_ 1 [p_ 0 2 (.mv (i_ 0))]) .ret) .skip)) (.seq (g_ 5 [p_ 0 5 (m_ 0),p_ 1 6 (n_ 5),p_ 2 7 (f_ 7 6),r_ 3 8 (l_ 7),p_ 4 2 (m_ 8)]) .ret)))
theorem ahA:aN 33 ahB:=⟨by kernel_rfl,by kernel_rfl⟩
def ahz:XF:=.mk 10 (.one 2) (.seq (g_ 1 [p_ 0 2 (.mv (.c .nilS))]) (.seq (.seq (g_ 2 [p_ 0 3 (m_ 0),c_ 1 4 53 [.t 3]]) (.cond (.t 4) (.seq (g_ 1 [p_ 0 2 (.mv (.c .nilS))]) .ret) .skip)) (.seq (g_ 6 [p_ 0 5 (m_ 0),p_ 1 6 (n_ 5),p_ 2 7 (f_ 5 6),r_ 3 8 (l_ 7),c_ 4 9 54 [.t 8],p_ 5 2 (m_ 9)]) .ret)))
theorem ahy:aN 34 ahz:=⟨by kernel_rfl,by kernel_rfl⟩
def ahx:XF:=.mk 8 (.one 2) (.seq (g_ 1 [p_ 0 2 (.mv (.c .nilS))]) (.seq (.seq (g_ 2 [p_ 0 3 (m_ 0),p_ 1 4 (.isn false 2 (.t 3))]) (.cond (.t 4) (.seq (g_ 1 [p_ 0 2 (.mv (.c .nilS))]) .ret) .skip)) (.seq (g_ 4 [e_ 0 5 (.bsl 68 18 0 [] [] []),p_ 1 6 (m_ 0),e_ 2 7 (.app 68 18 104 (.t 5) (.t 6)),p_ 3 2 (m_ 7)]) .ret)))
theorem ahw:aN 35 ahx:=⟨by kernel_rfl,by kernel_rfl⟩
def ahv:XF:=.mk 32 (.one 6) (.seq (g_ 1 [p_ 0 6 (.mv (.c (.bool false)))]) (.seq (.seq (g_ 5 [p_ 0 10 (m_ 0),p_ 1 11 (k_ 10),p_ 2 12 (m_ 1),p_ 3 13 (k_ 12),p_ 4 14 (.bin 3 5 (.t 11) (.t 13))]) (.cond (.t 14) (.seq (g_ 1 [p_ 0 6 (.mv (.c (.bool false)))]) .ret) .skip)) (.seq (.seq (g_ 3 [p_ 0 15 (m_ 0),p_ 1 16 (k_ 15),p_ 2 17 (.mv (i_ 0))]) (.block 2 (.loop [1,2,6,7,8,9,15,16,17,18,19,20,21,22,23,24,25,26,27,28,29,30,31] (.seq (g_ 1 [p_ 0 18 (.bin 3 0 (.t 17) (.t 16))]) (.seq (.cond (.t 18) .skip (.exit 2)) (.seq (.block 3 (.seq (g_ 6 [p_ 0 19 (m_ 17),p_ 1 20 (.ixs 18 (.t 15) (.t 17)),r_ 2 21 (.ld true 18 (.t 20)),e_ 3 8 (.al 68 [(.int 1 (.ofNat 0)),(.int 1 (.ofNat 0)),(.int 2 (.ofNat 0)),(.int 3 (.ofNat 0)),(.int 1 (.ofNat 0)),(.int 1 (.ofNat 0)),(.int 1 (.ofNat 0)),(.int 1 (.ofNat 0)),(.int 1 (.ofNat 0)),(.int 1 (.ofNat 0)),(.int 1 (.ofNat 0)),(.int 3 (.ofNat 0)),.nilS,(.int 1 (.ofNat 0)),(.str []),.nilS,(.int 1 (.ofNat 0)),(.int 2 (.ofNat 0))]),p_ 4 7 (m_ 19),bm 5 (.st 18 (.t 8) (.t 21))]) (.seq (g_ 6 [p_ 0 22 (m_ 1),p_ 1 23 (m_ 7),p_ 2 24 (.ixs 18 (.t 22) (.t 23)),r_ 3 25 (.ld true 18 (.t 24)),e_ 4 9 (.al 68 [(.int 1 (.ofNat 0)),(.int 1 (.ofNat 0)),(.int 2 (.ofNat 0)),(.int 3 (.ofNat 0)),(.int 1 (.ofNat 0)),(.int 1 (.ofNat 0)),(.int 1 (.ofNat 0)),(.int 1 (.ofNat 0)),(.int 1 (.ofNat 0)),(.int 1 (.ofNat 0)),(.int 1 (.ofNat 0)),(.int 3 (.ofNat 0)),.nilS,(.int 1 (.ofNat 0)),(.str []),.nilS,(.int 1 (.ofNat 0)),(.int 2 (.ofNat 0))]),bm 5 (.st 18 (.t 9) (.t 25))]) (.seq (g_ 5 [p_ 0 26 (m_ 2),r_ 1 27 (.ld true 18 (.t 8)),r_ 2 28 (.ld true 18 (.t 9)),.k 3 (some 29) none 26 [37] [(.t 27),(.t 28)],p_ 4 30 (.un 0 (.t 29))]) (.cond (.t 30) (.seq (g_ 1 [p_ 0 6 (.mv (.c (.bool false)))]) .ret) .skip))))) (g_ 2 [p_ 0 31 (.bin 0 0 (.t 17) (i_ 1)),p_ 1 17 (m_ 31)]))))))) (.seq (g_ 1 [p_ 0 6 (.mv (.c (.bool true)))]) .ret))))
theorem ahu:aN 36 ahv:=⟨by kernel_rfl,by kernel_rfl⟩
def aht:XF:=.mk 8 (.cell 2 true 3) (.seq (g_ 2 [e_ 0 1 (.box 45 (.t 0)),e_ 1 2 (.al 45 [(.int 1 (.ofNat 0)),(.int 3 (.ofNat 0)),.nilS])]) (.seq (g_ 5 [p_ 0 3 (f_ 2 1),r_ 1 4 (l_ 3),c_ 2 5 48 [.t 4],p_ 3 6 (f_ 2 1),bm 4 (.st 1 (.t 6) (.t 5))]) (.seq (g_ 2 [r_ 0 7 (.ld true 3 (.t 1)),bm 1 (.st 3 (.t 2) (.t 7))]) .ret)))
theorem ahs:aN 38 aht:=⟨by kernel_rfl,by kernel_rfl⟩
def ahr:XF:=.mk 12 (.cell 2 true 2) (.seq (g_ 2 [e_ 0 1 (.box 45 (.t 0)),e_ 1 2 (.al 52 [(.int 1 (.ofNat 0)),(.int 2 (.ofNat 0))])]) (.seq (.seq (g_ 4 [p_ 0 3 (f_ 2 1),r_ 1 4 (l_ 3),p_ 2 5 (k_ 4),p_ 3 6 (.bin 3 4 (.t 5) (i_ 0))]) (.cond (.t 6) (.seq (g_ 2 [p_ 0 7 (.bld [(.int 1 (.ofNat 0)),(.int 2 (.ofNat 0))] [] []),bm 1 (.st 2 (.t 2) (.t 7))]) .ret) .skip)) (.seq (g_ 5 [p_ 0 8 (f_ 2 1),r_ 1 9 (l_ 8),p_ 2 10 (.ixs 2 (.t 9) (i_ 0)),r_ 3 11 (.ld true 2 (.t 10)),bm 4 (.st 2 (.t 2) (.t 11))]) .ret)))
theorem ahq:aN 41 ahr:=⟨by kernel_rfl,by kernel_rfl⟩
def ahp:XF:=.mk 13 (.one 2) (.seq (g_ 1 [p_ 0 2 (.mv (.c (.bool false)))]) (.seq (g_ 11 [p_ 0 3 (m_ 0),c_ 1 4 53 [.t 3],p_ 2 5 (.un 0 (.t 4)),p_ 3 6 (m_ 5),am 4 7 6 true (m_ 0),am 5 8 6 true (n_ 7),am 6 9 6 true (f_ 8 8),aU 7 10 6 true (l_ 9),am 8 11 6 true (.un 0 (.t 10)),p_ 9 12 (.pick (.t 6) (.t 11) (.c (.bool false))),p_ 10 2 (m_ 12)]) .ret))
theorem aho:aN 42 ahp:=⟨by kernel_rfl,by kernel_rfl⟩
def ahn:XF:=.mk 16 (.ct 4 true 3 5) (.seq (g_ 2 [e_ 0 4 (.al 45 [(.int 1 (.ofNat 0)),(.int 3 (.ofNat 0)),.nilS]),p_ 1 5 (.mv (i_ 0))]) (.seq (g_ 6 [p_ 0 7 (m_ 0),p_ 1 8 (m_ 1),c_ 2 9 48 [.t 8],p_ 3 10 (.bld [(.int 1 (.ofNat 0)),(.int 3 (.ofNat 0)),.nilS] [(0,1),(1,1),(2,1)] [(.t 7),(.c (.int 3 (.ofNat 1))),(.t 9)]),e_ 4 6 (.al 45 [(.int 1 (.ofNat 0)),(.int 3 (.ofNat 0)),.nilS]),bm 5 (.st 3 (.t 6) (.t 10))]) (.seq (.seq (g_ 3 [r_ 0 11 (.ld true 3 (.t 6)),c_ 1 12 58 [.t 11],p_ 2 13 (.un 0 (.t 12))]) (.cond (.t 13) (.seq (g_ 3 [p_ 0 14 (.bld [(.int 1 (.ofNat 0)),(.int 3 (.ofNat 0)),.nilS] [] []),bm 1 (.st 3 (.t 4) (.t 14)),p_ 2 5 (.mv (i_ 1))]) .ret) .skip)) (.seq (g_ 3 [r_ 0 15 (.ld true 3 (.t 6)),bm 1 (.st 3 (.t 4) (.t 15)),p_ 2 5 (.mv (i_ 0))]) .ret))))
theorem ahm:aN 43 ahn:=⟨by kernel_rfl,by kernel_rfl⟩
def ahl:XF:=.mk 11 (.one 2) (.seq (g_ 2 [e_ 0 1 (.box 52 (.t 0)),p_ 1 2 (.mv (.c (.bool false)))]) (.seq (g_ 9 [p_ 0 3 (f_ 0 1),r_ 1 4 (l_ 3),p_ 2 5 (.bin 3 0 (.t 4) (.c (.int 1 (.ofNat 16)))),p_ 3 6 (m_ 5),am 4 7 6 true (f_ 1 1),aU 5 8 6 true (l_ 7),am 6 9 6 true (.bin 3 2 (.t 8) (.c (.int 2 (.ofNat 0)))),p_ 7 10 (.pick (.t 6) (.t 9) (.c (.bool false))),p_ 8 2 (m_ 10)]) .ret))
theorem ahk:aN 44 ahl:=⟨by kernel_rfl,by kernel_rfl⟩
def ahj:XF:=.mk 9 (.one 4) (.seq (g_ 3 [e_ 0 2 (.box 45 (.t 0)),e_ 1 3 (.box 52 (.t 1)),p_ 2 4 (.mv (i_ 0))]) (.seq (g_ 5 [p_ 0 5 (f_ 2 2),r_ 1 6 (l_ 5),r_ 2 7 (.ld true 2 (.t 3)),c_ 3 8 59 [(.t 6),(.t 7)],p_ 4 4 (m_ 8)]) .ret))
theorem ahi:aN 45 ahj:=⟨by kernel_rfl,by kernel_rfl⟩
def ahh:XF:=.mk 96 .none (.seq (g_ 1 [e_ 0 6 (.box 45 (.t 2))]) (.seq (g_ 6 [p_ 0 9 (m_ 0),p_ 1 10 (f_ 1 6),r_ 2 11 (l_ 10),p_ 3 12 (n_ 9),p_ 4 13 (f_ 15 12),bm 5 (.st 1 (.t 13) (.t 11))]) (.seq (.seq (h_ 7 [r_ 0 14 (.ld true 3 (.t 6)),p_ 1 15 (m_ 0),p_ 2 16 (n_ 15),p_ 3 17 (f_ 8 16),r_ 4 18 (.ld true 2 (.t 17)),c_ 5 19 45 [(.t 14),(.t 18)],p_ 6 20 (.bin 3 0 (.t 19) (i_ 0))]) (.cond (.t 20) (.seq (g_ 12 [p_ 0 21 (m_ 0),p_ 1 22 (m_ 0),p_ 2 23 (m_ 0),c_ 3 24 13 [.t 23],p_ 4 25 (m_ 0),c_ 5 26 12 [.t 25],p_ 6 27 (n_ 21),p_ 7 28 (f_ 18 27),bm 8 (.st 1 (.t 28) (.t 24)),p_ 9 29 (n_ 22),p_ 10 30 (f_ 20 29),bm 11 (.st 1 (.t 30) (.t 26))]) (.seq (g_ 5 [p_ 0 31 (m_ 0),p_ 1 32 (.bld [(.int 1 (.ofNat 0)),(.int 3 (.ofNat 0)),.nilS,.nilP,.nilP,.nilP,(o_ 0)] [] []),p_ 2 33 (n_ 31),p_ 3 34 (f_ 0 33),bm 4 (.st 7 (.t 34) (.t 32))]) .ret)) .skip)) (.seq (h_ 15 [p_ 0 35 (m_ 0),r_ 1 36 (.ld true 3 (.t 6)),r_ 3 38 (.ld true 3 (.t 6)),p_ 4 39 (m_ 0),p_ 5 40 (n_ 39),p_ 6 41 (f_ 8 40),r_ 7 42 (.ld true 2 (.t 41)),p_ 8 43 (m_ 3),c_ 2 37 38 [.t 36],a_ 3 38 (.ld true 3 (.t 6)),a_ 7 42 (.ld true 2 (.t 41)),c_ 9 44 60 [(.t 38),(.t 42),(.t 43)],c_ 10 45 61 [],p_ 11 46 (.bld [(.int 1 (.ofNat 0)),(.int 3 (.ofNat 0)),.nilS,.nilP,.nilP,.nilP,(o_ 0)] [(0,3),(3,1),(4,1)] [(.t 37),(.t 44),(.t 45)]),p_ 12 47 (n_ 35),p_ 13 48 (f_ 0 47),bm 14 (.st 7 (.t 48) (.t 46))]) (.seq (h_ 12 [p_ 0 49 (m_ 0),p_ 1 50 (m_ 0),p_ 2 51 (n_ 50),p_ 3 52 (f_ 19 51),r_ 4 53 (l_ 52),r_ 5 54 (.ld true 3 (.t 6)),c_ 6 55 38 [.t 54],a_ 4 53 (l_ 52),e_ 7 56 (.bsl 45 3 1 [(.int 1 (.ofNat 0)),(.int 3 (.ofNat 0)),.nilS] [(0,3)] [.t 55]),a_ 4 53 (l_ 52),e_ 8 57 (.app 45 3 32 (.t 53) (.t 56)),p_ 9 58 (n_ 49),p_ 10 59 (f_ 19 58),bm 11 (.st 1 (.t 59) (.t 57))]) (.seq (g_ 3 [p_ 0 60 (.mkf 62 [.t 6]),e_ 1 8 (.al 113 [.nilF]),bm 2 (.st 1 (.t 8) (.t 60))]) (.seq (h_ 20 [p_ 0 61 (m_ 0),p_ 1 62 (m_ 0),p_ 2 63 (m_ 0),p_ 3 64 (n_ 63),p_ 4 65 (f_ 11 64),r_ 5 66 (l_ 65),r_ 6 67 (l_ 8),p_ 8 69 (m_ 0),p_ 9 70 (n_ 69),p_ 10 71 (f_ 13 70),r_ 11 72 (l_ 71),r_ 12 73 (l_ 8),c_ 7 68 63 [(.t 66),(.t 67)],a_ 11 72 (l_ 71),a_ 12 73 (l_ 8),c_ 13 74 63 [(.t 72),(.t 73)],p_ 14 75 (n_ 61),p_ 15 76 (f_ 11 75),bm 16 (.st 1 (.t 76) (.t 68)),p_ 17 77 (n_ 62),p_ 18 78 (f_ 13 77),bm 19 (.st 1 (.t 78) (.t 74))]) (.seq (g_ 10 [p_ 0 79 (m_ 0),p_ 1 80 (m_ 0),p_ 2 81 (n_ 80),p_ 3 82 (f_ 12 81),r_ 4 83 (l_ 82),p_ 5 84 (.mkf 64 [.t 8]),c_ 6 85 63 [(.t 83),(.t 84)],p_ 7 86 (n_ 79),p_ 8 87 (f_ 12 86),bm 9 (.st 1 (.t 87) (.t 85))]) (g_ 10 [p_ 0 88 (m_ 0),p_ 1 89 (m_ 0),p_ 2 90 (m_ 1),p_ 3 91 (.bin 0 0 (.t 90) (i_ 2)),p_ 4 92 (n_ 88),p_ 5 93 (f_ 14 92),bm 6 (.st 1 (.t 93) (.c (.bool false))),p_ 7 94 (n_ 89),p_ 8 95 (f_ 17 94),bm 9 (.st 1 (.t 95) (.t 91))])))))))))
theorem ahg:aN 46 ahh:=⟨by kernel_rfl,by kernel_rfl⟩
def ahf:XF:=.mk 44 (.one 4) (.seq (g_ 2 [e_ 0 3 (.box 68 (.t 1)),p_ 1 4 (.mv (i_ 0))]) (.seq (.block 2 (.seq (h_ 14 [p_ 0 6 (m_ 0),c_ 1 7 65 [.t 6],p_ 2 8 (.un 0 (.t 7)),p_ 3 9 (m_ 8),aU 4 10 9 false (.ld true 18 (.t 3)),am 5 11 9 false (m_ 0),am 6 12 9 false (n_ 11),am 7 13 9 false (f_ 0 12),am 8 14 9 false (f_ 0 13),aU 9 15 9 false (l_ 14),da 10 16 9 false 66 [(.t 10),(.t 15)],am 11 17 9 false (.un 0 (.t 16)),p_ 12 18 (.pick (.t 9) (.c (.bool true)) (.t 17)),p_ 13 5 (m_ 18)]) (.cond (.t 5) (.seq (g_ 1 [p_ 0 4 (.mv (i_ 1))]) .ret) (.seq (g_ 5 [p_ 0 20 (m_ 0),p_ 1 21 (n_ 20),p_ 2 22 (f_ 8 21),r_ 3 23 (l_ 22),p_ 4 19 (m_ 23)]) (.cond (.t 19) (.seq (g_ 1 [p_ 0 4 (.mv (i_ 17))]) .ret) (.seq (g_ 7 [p_ 0 25 (m_ 0),p_ 1 26 (n_ 25),p_ 2 27 (f_ 5 26),r_ 3 28 (l_ 27),p_ 4 29 (k_ 28),p_ 5 30 (.bin 3 3 (.t 29) (i_ 400)),p_ 6 24 (m_ 30)]) (.cond (.t 24) (.seq (g_ 1 [p_ 0 4 (.mv (i_ 11))]) .ret) .skip))))))) (.seq (h_ 12 [p_ 0 31 (m_ 0),p_ 1 32 (m_ 0),p_ 2 33 (n_ 32),p_ 3 34 (f_ 5 33),r_ 4 35 (l_ 34),r_ 5 36 (.ld true 18 (.t 3)),c_ 6 37 67 [.t 36],a_ 4 35 (l_ 34),e_ 7 38 (.bsl 68 18 1 [(.int 1 (.ofNat 0)),(.int 1 (.ofNat 0)),(.int 2 (.ofNat 0)),(.int 3 (.ofNat 0)),(.int 1 (.ofNat 0)),(.int 1 (.ofNat 0)),(.int 1 (.ofNat 0)),(.int 1 (.ofNat 0)),(.int 1 (.ofNat 0)),(.int 1 (.ofNat 0)),(.int 1 (.ofNat 0)),(.int 3 (.ofNat 0)),.nilS,(.int 1 (.ofNat 0)),(.str []),.nilS,(.int 1 (.ofNat 0)),(.int 2 (.ofNat 0))] [(0,18)] [.t 37]),a_ 4 35 (l_ 34),e_ 8 39 (.app 68 18 104 (.t 35) (.t 38)),p_ 9 40 (n_ 31),p_ 10 41 (f_ 5 40),bm 11 (.st 1 (.t 41) (.t 39))]) (.seq (g_ 2 [p_ 0 42 (m_ 0),c_ 1 43 68 [.t 42]]) (.seq (g_ 1 [p_ 0 4 (.mv (i_ 0))]) .ret)))))
theorem ahe:aN 47 ahf:=⟨by kernel_rfl,by kernel_rfl⟩
def ahd:XF:=.mk 8 (.one 2) (.seq (g_ 1 [p_ 0 2 (.mv (.c .nilS))]) (.seq (.seq (g_ 2 [p_ 0 3 (m_ 0),p_ 1 4 (.isn false 2 (.t 3))]) (.cond (.t 4) (.seq (g_ 1 [p_ 0 2 (.mv (.c .nilS))]) .ret) .skip)) (.seq (g_ 4 [e_ 0 5 (.bsl 52 2 0 [] [] []),p_ 1 6 (m_ 0),e_ 2 7 (.app 52 2 4 (.t 5) (.t 6)),p_ 3 2 (m_ 7)]) .ret)))
theorem ahc:aN 48 ahd:=⟨by kernel_rfl,by kernel_rfl⟩
def ahb:XF:=.mk 44 .none (.seq (g_ 1 [p_ 0 6 (.mv (i_ 0))]) (.block 2 (.loop [0,1,2,6,7,8,9,10,11,12,13,14,15,16,17,18,19,20,21,22,23,24,25,26,27,28,29,30,31,32,33,34,35,36,37,38,39,40,41,42,43] (.seq (.seq (g_ 12 [p_ 0 7 (m_ 6),p_ 1 8 (m_ 2),p_ 2 9 (k_ 8),p_ 3 10 (.bin 3 0 (.t 7) (.t 9)),p_ 4 11 (m_ 10),am 5 12 11 true (m_ 0),am 6 13 11 true (n_ 12),am 7 14 11 true (f_ 2 13),aU 8 15 11 true (l_ 14),am 9 16 11 true (k_ 15),am 10 17 11 true (.bin 3 0 (.t 16) (i_ 400)),p_ 11 18 (.pick (.t 11) (.t 17) (.c (.bool false)))]) (.cond (.t 18) .skip (.exit 2))) (.seq (.block 3 (h_ 24 [p_ 0 21 (m_ 0),p_ 1 22 (m_ 0),p_ 2 23 (n_ 22),p_ 3 24 (f_ 2 23),r_ 4 25 (l_ 24),p_ 5 26 (m_ 1),p_ 6 27 (m_ 2),p_ 7 28 (m_ 6),p_ 8 29 (.ixs 33 (.t 27) (.t 28)),p_ 9 30 (f_ 0 29),p_ 10 31 (f_ 0 30),r_ 11 32 (l_ 31),p_ 12 33 (.cnv 0 (.t 32)),p_ 13 34 (m_ 2),p_ 14 35 (m_ 6),p_ 15 36 (.ixs 33 (.t 34) (.t 35)),p_ 16 37 (f_ 2 36),r_ 17 38 (.ld true 31 (.t 37)),p_ 18 39 (.bld [(o_ 0),(o_ 0),(.int 1 (.ofNat 0)),(.int 1 (.ofNat 0)),(.int 1 (.ofNat 0)),(.int 3 (.ofNat 0)),(.int 3 (.ofNat 0)),(.int 3 (.ofNat 0)),(.int 3 (.ofNat 0)),(.int 4 (.ofNat 0)),(.int 4 (.ofNat 0)),(.int 1 (.ofNat 0)),(.int 2 (.ofNat 0)),(.int 3 (.ofNat 0)),(.int 1 (.ofNat 0)),(.int 1 (.ofNat 0)),(.int 1 (.ofNat 0)),(.int 1 (.ofNat 0)),(.int 1 (.ofNat 0)),(.int 1 (.ofNat 0)),(.int 1 (.ofNat 0)),.nilS,(.int 1 (.ofNat 0)),(.str []),(.int 1 (.ofNat 0)),(.int 3 (.ofNat 0)),.nilS,(.int 1 (.ofNat 0)),(.int 2 (.ofNat 0)),(.bool false),.nilS,.nilS,.nilS] [(0,1),(1,1),(2,31)] [(.t 26),(.t 33),(.t 38)]),e_ 19 40 (.bsl 76 33 1 [(o_ 0),(o_ 0),(.int 1 (.ofNat 0)),(.int 1 (.ofNat 0)),(.int 1 (.ofNat 0)),(.int 3 (.ofNat 0)),(.int 3 (.ofNat 0)),(.int 3 (.ofNat 0)),(.int 3 (.ofNat 0)),(.int 4 (.ofNat 0)),(.int 4 (.ofNat 0)),(.int 1 (.ofNat 0)),(.int 2 (.ofNat 0)),(.int 3 (.ofNat 0)),(.int 1 (.ofNat 0)),(.int 1 (.ofNat 0)),(.int 1 (.ofNat 0)),(.int 1 (.ofNat 0)),(.int 1 (.ofNat 0)),(.int 1 (.ofNat 0)),(.int 1 (.ofNat 0)),.nilS,(.int 1 (.ofNat 0)),(.str []),(.int 1 (.ofNat 0)),(.int 3 (.ofNat 0)),.nilS,(.int 1 (.ofNat 0)),(.int 2 (.ofNat 0)),(.bool false),.nilS,.nilS,.nilS] [(0,33)] [.t 39]),a_ 4 25 (l_ 24),e_ 20 41 (.app 76 33 232 (.t 25) (.t 40)),p_ 21 42 (n_ 21),p_ 22 43 (f_ 2 42),bm 23 (.st 1 (.t 43) (.t 41))])) (g_ 3 [p_ 0 19 (m_ 6),p_ 1 20 (.bin 0 0 (.t 19) (i_ 1)),p_ 2 6 (m_ 20)]))))))
theorem aha:aN 49 ahb:=⟨by kernel_rfl,by kernel_rfl⟩
def ag9:XF:=.mk 26 (.one 4) (.seq (g_ 1 [p_ 0 4 (.mv (.c (.bool false)))]) (.seq (.seq (g_ 5 [p_ 0 6 (m_ 0),p_ 1 7 (k_ 6),p_ 2 8 (m_ 1),p_ 3 9 (k_ 8),p_ 4 10 (.bin 3 5 (.t 7) (.t 9))]) (.cond (.t 10) (.seq (g_ 1 [p_ 0 4 (.mv (.c (.bool false)))]) .ret) .skip)) (.seq (.seq (g_ 3 [p_ 0 11 (m_ 0),p_ 1 12 (k_ 11),p_ 2 13 (.mv (i_ 0))]) (.block 2 (.loop [0,1,4,5,12,13,14,15,16,17,18,19,20,21,22,23,24,25] (.seq (g_ 1 [p_ 0 14 (.bin 3 0 (.t 13) (.t 12))]) (.seq (.cond (.t 14) .skip (.exit 2)) (.seq (.block 3 (.seq (g_ 2 [p_ 0 15 (m_ 13),p_ 1 5 (m_ 15)]) (.seq (h_ 9 [p_ 0 16 (m_ 0),p_ 1 17 (m_ 5),p_ 2 18 (.ixs 2 (.t 16) (.t 17)),r_ 3 19 (.ld true 2 (.t 18)),p_ 4 20 (m_ 1),p_ 5 21 (m_ 5),p_ 6 22 (.ixs 2 (.t 20) (.t 21)),r_ 7 23 (.ld true 2 (.t 22)),p_ 8 24 (.eqs true 2 (.st [(0,1,false,.int),(1,1,false,.int)]) (.t 19) (.t 23))]) (.cond (.t 24) (.seq (g_ 1 [p_ 0 4 (.mv (.c (.bool false)))]) .ret) .skip)))) (g_ 2 [p_ 0 25 (.bin 0 0 (.t 13) (i_ 1)),p_ 1 13 (m_ 25)]))))))) (.seq (g_ 1 [p_ 0 4 (.mv (.c (.bool true)))]) .ret))))
theorem ag8:aN 52 ag9:=⟨by kernel_rfl,by kernel_rfl⟩
def ag7:XF:=.mk 12 (.one 2) (.seq (g_ 1 [p_ 0 2 (.mv (.c (.bool false)))]) (.seq (g_ 10 [p_ 0 3 (m_ 0),p_ 1 4 (.isn false 1 (.t 3)),p_ 2 5 (m_ 4),am 3 6 5 false (m_ 0),am 4 7 5 false (n_ 6),am 5 8 5 false (f_ 9 7),aU 6 9 5 false (l_ 8),am 7 10 5 false (.isn false 3 (.t 9)),p_ 8 11 (.pick (.t 5) (.c (.bool true)) (.t 10)),p_ 9 2 (m_ 11)]) .ret))
theorem ag6:aN 53 ag7:=⟨by kernel_rfl,by kernel_rfl⟩
def ag5:XF:=.mk 27 (.one 2) (.seq (g_ 1 [p_ 0 2 (.mv (.c .nilS))]) (.seq (g_ 4 [p_ 0 6 (m_ 0),p_ 1 7 (k_ 6),e_ 2 8 (.mks 68 18 104 [(.int 1 (.ofNat 0)),(.int 1 (.ofNat 0)),(.int 2 (.ofNat 0)),(.int 3 (.ofNat 0)),(.int 1 (.ofNat 0)),(.int 1 (.ofNat 0)),(.int 1 (.ofNat 0)),(.int 1 (.ofNat 0)),(.int 1 (.ofNat 0)),(.int 1 (.ofNat 0)),(.int 1 (.ofNat 0)),(.int 3 (.ofNat 0)),.nilS,(.int 1 (.ofNat 0)),(.str []),.nilS,(.int 1 (.ofNat 0)),(.int 2 (.ofNat 0))] (i_ 0) (.t 7)),p_ 3 3 (m_ 8)]) (.seq (.seq (g_ 3 [p_ 0 9 (m_ 0),p_ 1 10 (k_ 9),p_ 2 11 (.mv (i_ 0))]) (.block 2 (.loop [2,3,5,9,10,11,12,13,14,15,16,17,18,19,20,21,22,23,24,25,26] (.seq (g_ 1 [p_ 0 12 (.bin 3 0 (.t 11) (.t 10))]) (.seq (.cond (.t 12) .skip (.exit 2)) (.seq (.block 3 (.seq (g_ 4 [p_ 0 13 (.ixs 18 (.t 9) (.t 11)),r_ 1 14 (.ld true 18 (.t 13)),e_ 2 5 (.al 68 [(.int 1 (.ofNat 0)),(.int 1 (.ofNat 0)),(.int 2 (.ofNat 0)),(.int 3 (.ofNat 0)),(.int 1 (.ofNat 0)),(.int 1 (.ofNat 0)),(.int 1 (.ofNat 0)),(.int 1 (.ofNat 0)),(.int 1 (.ofNat 0)),(.int 1 (.ofNat 0)),(.int 1 (.ofNat 0)),(.int 3 (.ofNat 0)),.nilS,(.int 1 (.ofNat 0)),(.str []),.nilS,(.int 1 (.ofNat 0)),(.int 2 (.ofNat 0))]),bm 3 (.st 18 (.t 5) (.t 14))]) (g_ 6 [p_ 0 15 (m_ 3),r_ 1 16 (.ld true 18 (.t 5)),c_ 2 17 67 [.t 16],e_ 3 18 (.bsl 68 18 1 [(.int 1 (.ofNat 0)),(.int 1 (.ofNat 0)),(.int 2 (.ofNat 0)),(.int 3 (.ofNat 0)),(.int 1 (.ofNat 0)),(.int 1 (.ofNat 0)),(.int 1 (.ofNat 0)),(.int 1 (.ofNat 0)),(.int 1 (.ofNat 0)),(.int 1 (.ofNat 0)),(.int 1 (.ofNat 0)),(.int 3 (.ofNat 0)),.nilS,(.int 1 (.ofNat 0)),(.str []),.nilS,(.int 1 (.ofNat 0)),(.int 2 (.ofNat 0))] [(0,18)] [.t 17]),e_ 4 19 (.app 68 18 104 (.t 15) (.t 18)),p_ 5 3 (m_ 19)]))) (g_ 2 [p_ 0 20 (.bin 0 0 (.t 11) (i_ 1)),p_ 1 11 (m_ 20)]))))))) (.seq (g_ 7 [p_ 0 21 (m_ 3),p_ 1 22 (m_ 3),p_ 2 23 (k_ 22),p_ 3 24 (m_ 3),p_ 4 25 (k_ 24),r_ 5 26 (.sls 18 (.t 21) none (some (.t 23)) (some (.t 25))),p_ 6 2 (m_ 26)]) .ret))))
theorem ag4:aN 54 ag5:=⟨by kernel_rfl,by kernel_rfl⟩
def ag3:XF:=.mk 8 (.one 4) (.seq (g_ 1 [p_ 0 4 (.mv (.c (.bool false)))]) (.seq (g_ 4 [p_ 0 5 (m_ 0),p_ 1 6 (m_ 1),c_ 2 7 79 [(.t 5),(.t 6)],p_ 3 4 (m_ 7)]) .ret))
theorem ag2:aN 55 ag3:=⟨by kernel_rfl,by kernel_rfl⟩
def ag1:XF:=.mk 26 (.one 4) (.seq (g_ 1 [p_ 0 4 (.mv (.c (.bool false)))]) (.seq (.seq (g_ 5 [p_ 0 6 (m_ 0),p_ 1 7 (k_ 6),p_ 2 8 (m_ 1),p_ 3 9 (k_ 8),p_ 4 10 (.bin 3 5 (.t 7) (.t 9))]) (.cond (.t 10) (.seq (g_ 1 [p_ 0 4 (.mv (.c (.bool false)))]) .ret) .skip)) (.seq (.seq (g_ 3 [p_ 0 11 (m_ 0),p_ 1 12 (k_ 11),p_ 2 13 (.mv (i_ 0))]) (.block 2 (.loop [0,1,4,5,12,13,14,15,16,17,18,19,20,21,22,23,24,25] (.seq (g_ 1 [p_ 0 14 (.bin 3 0 (.t 13) (.t 12))]) (.seq (.cond (.t 14) .skip (.exit 2)) (.seq (.block 3 (.seq (g_ 2 [p_ 0 15 (m_ 13),p_ 1 5 (m_ 15)]) (.seq (h_ 9 [p_ 0 16 (m_ 0),p_ 1 17 (m_ 5),p_ 2 18 (.ixs 3 (.t 16) (.t 17)),r_ 3 19 (.ld true 3 (.t 18)),p_ 4 20 (m_ 1),p_ 5 21 (m_ 5),p_ 6 22 (.ixs 3 (.t 20) (.t 21)),r_ 7 23 (.ld true 3 (.t 22)),p_ 8 24 (.eqs true 2 (.st [(0,1,false,.str),(1,1,false,.str),(2,1,false,.bool)]) (.t 19) (.t 23))]) (.cond (.t 24) (.seq (g_ 1 [p_ 0 4 (.mv (.c (.bool false)))]) .ret) .skip)))) (g_ 2 [p_ 0 25 (.bin 0 0 (.t 13) (i_ 1)),p_ 1 13 (m_ 25)]))))))) (.seq (g_ 1 [p_ 0 4 (.mv (.c (.bool true)))]) .ret))))
theorem ag0:aN 56 ag1:=⟨by kernel_rfl,by kernel_rfl⟩
def agZ:XF:=.mk 9 (.one 4) (.seq (g_ 2 [e_ 0 3 (.box 52 (.t 1)),p_ 1 4 (.mv (.c (.bool false)))]) (.seq (g_ 5 [p_ 0 5 (m_ 0),r_ 1 6 (.ld true 2 (.t 3)),c_ 2 7 59 [(.t 5),(.t 6)],p_ 3 8 (.bin 3 3 (.t 7) (i_ 0)),p_ 4 4 (m_ 8)]) .ret))
theorem agY:aN 57 agZ:=⟨by kernel_rfl,by kernel_rfl⟩
def agX:XF:=.mk 46 (.one 2) (.seq (g_ 2 [e_ 0 1 (.box 45 (.t 0)),p_ 1 2 (.mv (.c (.bool false)))]) (.seq (.seq (g_ 20 [p_ 0 6 (f_ 0 1),r_ 1 7 (l_ 6),p_ 2 8 (.bin 3 3 (.t 7) (.c (.int 1 (.ofNat 4)))),p_ 3 9 (m_ 8),am 4 10 9 false (f_ 1 1),aU 5 11 9 false (l_ 10),am 6 12 9 false (.bin 3 4 (.t 11) (.c (.int 3 (.ofNat 0)))),p_ 7 13 (.pick (.t 9) (.c (.bool true)) (.t 12)),p_ 8 14 (m_ 13),am 9 15 14 false (f_ 2 1),aU 10 16 14 false (l_ 15),am 11 17 14 false (k_ 16),am 12 18 14 false (.bin 3 4 (.t 17) (i_ 0)),p_ 13 19 (.pick (.t 14) (.c (.bool true)) (.t 18)),p_ 14 20 (m_ 19),am 15 21 20 false (f_ 2 1),aU 16 22 20 false (l_ 21),am 17 23 20 false (k_ 22),am 18 24 20 false (.bin 3 2 (.t 23) (i_ 8)),p_ 19 25 (.pick (.t 20) (.c (.bool true)) (.t 24))]) (.cond (.t 25) (.seq (g_ 1 [p_ 0 2 (.mv (.c (.bool false)))]) .ret) .skip)) (.seq (g_ 1 [e_ 0 3 (.al 128 [(.bool false),(.bool false),(.bool false),(.bool false),(.bool false),(.bool false),(.bool false),(.bool false),(.bool false),(.bool false),(.bool false),(.bool false),(.bool false),(.bool false),(.bool false),(.bool false)])]) (.seq (.seq (g_ 4 [p_ 0 26 (f_ 2 1),r_ 1 27 (l_ 26),p_ 2 28 (k_ 27),p_ 3 29 (.mv (i_ 0))]) (.block 2 (.loop [2,3,5,27,28,29,30,31,32,33,34,35,36,37,38,39,40,41,42,43,44,45] (.seq (g_ 1 [p_ 0 30 (.bin 3 0 (.t 29) (.t 28))]) (.seq (.cond (.t 30) .skip (.exit 2)) (.seq (.block 3 (.seq (g_ 4 [p_ 0 31 (.ixs 2 (.t 27) (.t 29)),r_ 1 32 (.ld true 2 (.t 31)),e_ 2 5 (.al 52 [(.int 1 (.ofNat 0)),(.int 2 (.ofNat 0))]),bm 3 (.st 2 (.t 5) (.t 32))]) (.seq (.seq (g_ 9 [r_ 0 33 (.ld true 2 (.t 5)),c_ 1 34 44 [.t 33],p_ 2 35 (.un 0 (.t 34)),p_ 3 36 (m_ 35),am 4 37 36 false (f_ 0 5),aU 5 38 36 false (l_ 37),am 6 39 36 false (.ixa 16 1 (.t 3) (.t 38)),aU 7 40 36 false (l_ 39),p_ 8 41 (.pick (.t 36) (.c (.bool true)) (.t 40))]) (.cond (.t 41) (.seq (g_ 1 [p_ 0 2 (.mv (.c (.bool false)))]) .ret) .skip)) (g_ 4 [p_ 0 42 (f_ 0 5),r_ 1 43 (l_ 42),p_ 2 44 (.ixa 16 1 (.t 3) (.t 43)),bm 3 (.st 1 (.t 44) (.c (.bool true)))])))) (g_ 2 [p_ 0 45 (.bin 0 0 (.t 29) (i_ 1)),p_ 1 29 (m_ 45)]))))))) (.seq (g_ 1 [p_ 0 2 (.mv (.c (.bool true)))]) .ret)))))
theorem agW:aN 58 agX:=⟨by kernel_rfl,by kernel_rfl⟩
def agV:XF:=.mk 19 (.one 4) (.seq (g_ 2 [e_ 0 3 (.box 52 (.t 1)),p_ 1 4 (.mv (i_ 0))]) (.seq (.seq (g_ 3 [p_ 0 6 (m_ 0),p_ 1 7 (k_ 6),p_ 2 8 (.mv (i_ 0))]) (.block 2 (.loop [0,3,4,5,7,8,9,10,11,12,13,14,15,16,17,18] (.seq (g_ 1 [p_ 0 9 (.bin 3 0 (.t 8) (.t 7))]) (.seq (.cond (.t 9) .skip (.exit 2)) (.seq (.block 3 (.seq (g_ 2 [p_ 0 10 (m_ 8),p_ 1 5 (m_ 10)]) (.seq (h_ 6 [r_ 0 11 (.ld true 2 (.t 3)),p_ 1 12 (m_ 0),p_ 2 13 (m_ 5),p_ 3 14 (.ixs 2 (.t 12) (.t 13)),r_ 4 15 (.ld true 2 (.t 14)),p_ 5 16 (.eqs false 2 (.st [(0,1,false,.int),(1,1,false,.int)]) (.t 11) (.t 15))]) (.cond (.t 16) (.seq (g_ 2 [p_ 0 17 (m_ 5),p_ 1 4 (m_ 17)]) .ret) .skip)))) (g_ 2 [p_ 0 18 (.bin 0 0 (.t 8) (i_ 1)),p_ 1 8 (m_ 18)]))))))) (.seq (g_ 1 [p_ 0 4 (.mv (.c (.int 0 (.negSucc 0))))]) .ret)))
theorem agU:aN 59 agV:=⟨by kernel_rfl,by kernel_rfl⟩
def agT:XF:=.mk 52 (.one 6) (.seq (g_ 3 [e_ 0 3 (.box 45 (.t 0)),e_ 1 4 (.box 52 (.t 1)),p_ 2 6 (.mv (.c .nilP))]) (.seq (.seq (g_ 14 [r_ 0 10 (.ld true 3 (.t 3)),c_ 1 11 58 [.t 10],p_ 2 12 (.un 0 (.t 11)),p_ 3 13 (m_ 12),aU 4 14 13 false (.ld true 3 (.t 3)),aU 5 15 13 false (.ld true 2 (.t 4)),da 6 16 13 false 45 [(.t 14),(.t 15)],am 7 17 13 false (.bin 3 0 (.t 16) (i_ 0)),p_ 8 18 (.pick (.t 13) (.c (.bool true)) (.t 17)),p_ 9 19 (m_ 18),am 10 20 19 false (m_ 2),am 11 21 19 false (k_ 20),am 12 22 19 false (.bin 3 2 (.t 21) (i_ 400)),p_ 13 23 (.pick (.t 19) (.c (.bool true)) (.t 22))]) (.cond (.t 23) (.seq (g_ 1 [p_ 0 6 (.mv (.c .nilP))]) .ret) .skip)) (.seq (.reg true 13 (.split 1 9 (.split 4 9 (.leaf [r_ 0 24 (.ld true 3 (.t 3)),r_ 2 26 (.ld true 2 (.t 4)),p_ 3 27 (m_ 2),p_ 5 29 (m_ 2),p_ 6 30 (k_ 29),p_ 7 31 (m_ 2),p_ 8 32 (k_ 31),c_ 1 25 38 [.t 24],a_ 2 26 (.ld true 2 (.t 4)),c_ 4 28 54 [.t 27],a_ 2 26 (.ld true 2 (.t 4)),e_ 9 33 .mkm,a_ 2 26 (.ld true 2 (.t 4)),p_ 10 34 (.bld [(.int 1 (.ofNat 0)),(.int 3 (.ofNat 0)),.nilS,(.int 1 (.ofNat 0)),(.int 2 (.ofNat 0)),.nilS,(o_ 0),(o_ 0),(.bool false),.nilM] [(0,3),(3,2),(5,1),(6,1),(7,1),(9,1)] [(.t 25),(.t 26),(.t 28),(.t 30),(.t 32),(.t 33)]),e_ 11 35 (.box 104 (.t 34)),p_ 12 7 (m_ 35)]) (.leaf [r_ 0 24 (.ld true 3 (.t 3)),r_ 2 26 (.ld true 2 (.t 4)),p_ 3 27 (m_ 2),p_ 5 29 (m_ 2),p_ 6 30 (k_ 29),p_ 7 31 (m_ 2),p_ 8 32 (k_ 31),c_ 1 25 38 [.t 24],a_ 2 26 (.ld true 2 (.t 4)),e_ 9 33 .mkm,a_ 2 26 (.ld true 2 (.t 4)),c_ 4 28 54 [.t 27],a_ 2 26 (.ld true 2 (.t 4)),p_ 10 34 (.bld [(.int 1 (.ofNat 0)),(.int 3 (.ofNat 0)),.nilS,(.int 1 (.ofNat 0)),(.int 2 (.ofNat 0)),.nilS,(o_ 0),(o_ 0),(.bool false),.nilM] [(0,3),(3,2),(5,1),(6,1),(7,1),(9,1)] [(.t 25),(.t 26),(.t 28),(.t 30),(.t 32),(.t 33)]),e_ 11 35 (.box 104 (.t 34)),p_ 12 7 (m_ 35)])) (.leaf [r_ 0 24 (.ld true 3 (.t 3)),r_ 2 26 (.ld true 2 (.t 4)),p_ 3 27 (m_ 2),p_ 5 29 (m_ 2),p_ 6 30 (k_ 29),p_ 7 31 (m_ 2),p_ 8 32 (k_ 31),e_ 9 33 .mkm,a_ 0 24 (.ld true 3 (.t 3)),a_ 2 26 (.ld true 2 (.t 4)),c_ 1 25 38 [.t 24],a_ 2 26 (.ld true 2 (.t 4)),c_ 4 28 54 [.t 27],a_ 2 26 (.ld true 2 (.t 4)),p_ 10 34 (.bld [(.int 1 (.ofNat 0)),(.int 3 (.ofNat 0)),.nilS,(.int 1 (.ofNat 0)),(.int 2 (.ofNat 0)),.nilS,(o_ 0),(o_ 0),(.bool false),.nilM] [(0,3),(3,2),(5,1),(6,1),(7,1),(9,1)] [(.t 25),(.t 26),(.t 28),(.t 30),(.t 32),(.t 33)]),e_ 11 35 (.box 104 (.t 34)),p_ 12 7 (m_ 35)]))) (.seq (.seq (g_ 4 [p_ 0 36 (f_ 2 3),r_ 1 37 (l_ 36),p_ 2 38 (k_ 37),p_ 3 39 (.mv (i_ 0))]) (.block 2 (.loop [2,6,7,9,37,38,39,40,41,42,43,44,45,46,47,48,49,50,51] (.seq (g_ 1 [p_ 0 40 (.bin 3 0 (.t 39) (.t 38))]) (.seq (.cond (.t 40) .skip (.exit 2)) (.seq (.block 3 (.seq (g_ 4 [p_ 0 41 (.ixs 2 (.t 37) (.t 39)),r_ 1 42 (.ld true 2 (.t 41)),e_ 2 9 (.al 52 [(.int 1 (.ofNat 0)),(.int 2 (.ofNat 0))]),bm 3 (.st 2 (.t 9) (.t 42))]) (h_ 8 [p_ 0 43 (m_ 7),p_ 1 44 (n_ 43),p_ 2 45 (f_ 9 44),r_ 3 46 (l_ 45),r_ 4 47 (.ld true 2 (.t 9)),p_ 5 48 (m_ 2),p_ 6 49 (k_ 48),bm 7 (.mu 2 (.st [(0,1,false,.int),(1,1,false,.int)]) (.t 46) (.t 47) (.t 49))]))) (g_ 2 [p_ 0 50 (.bin 0 0 (.t 39) (i_ 1)),p_ 1 39 (m_ 50)]))))))) (.seq (g_ 2 [p_ 0 51 (m_ 7),p_ 1 6 (m_ 51)]) .ret)))))
theorem agS:aN 60 agT:=⟨by kernel_rfl,by kernel_rfl⟩
def agR:XF:=.mk 3 (.one 0) (.seq (g_ 1 [p_ 0 0 (.mv (.c .nilP))]) (.seq (g_ 3 [p_ 0 1 (.bld [(.int 4 (.ofNat 0)),(.int 4 (.ofNat 0)),.nilS,.nilS,(.bool false)] [(4,1)] [(.c (.bool true))]),e_ 1 2 (.box 132 (.t 1)),p_ 2 0 (m_ 2)]) .ret))
theorem agQ:aN 61 agR:=⟨by kernel_rfl,by kernel_rfl⟩
def agP:XF:=.mk 9 (.one 4) (.seq (g_ 2 [e_ 0 3 (.box 113 (.t 1)),p_ 1 4 (.mv (.c .nilS))]) (.seq (g_ 5 [p_ 0 5 (m_ 0),c_ 1 6 48 [.t 5],p_ 2 7 (.mkf 81 [.t 3]),c_ 3 8 80 [(.t 6),(.t 7)],p_ 4 4 (m_ 8)]) .ret))
theorem agO:aN 63 agP:=⟨by kernel_rfl,by kernel_rfl⟩
def agN:XF:=.mk 18 (.one 2) (.seq (g_ 1 [p_ 0 2 (.mv (.c (.bool false)))]) (.seq (h_ 16 [p_ 0 3 (m_ 0),c_ 1 4 53 [.t 3],p_ 2 5 (.un 0 (.t 4)),p_ 3 6 (m_ 5),am 4 7 6 true (m_ 0),am 5 8 6 true (n_ 7),am 6 9 6 true (f_ 3 8),aU 7 10 6 true (.ld true 2 (.t 9)),am 8 11 6 true (m_ 0),am 9 12 6 true (n_ 11),am 10 13 6 true (f_ 0 12),aU 11 14 6 true (.ld true 3 (.t 13)),da 12 15 6 true 41 [.t 14],ag_ 7 10 6 true (.ld true 2 (.t 9)),am 13 16 6 true (.eqs false 2 (.st [(0,1,false,.int),(1,1,false,.int)]) (.t 10) (.t 15)),p_ 14 17 (.pick (.t 6) (.t 16) (.c (.bool false))),p_ 15 2 (m_ 17)]) .ret))
theorem agM:aN 65 agN:=⟨by kernel_rfl,by kernel_rfl⟩
def agL:XF:=.mk 111 (.one 4) (.seq (g_ 2 [e_ 0 2 (.box 68 (.t 0)),p_ 1 4 (.mv (.c (.bool false)))]) (.seq (g_ 3 [p_ 0 7 (.bld [(.int 1 (.ofNat 0)),(.str [])] [] []),e_ 1 5 (.al 65 [(.int 1 (.ofNat 0)),(.str [])]),bm 2 (.st 2 (.t 5) (.t 7))]) (.seq (.seq (g_ 2 [p_ 0 8 (f_ 0 2),r_ 1 9 (l_ 8)]) (.block 2 (.seq (g_ 2 [p_ 0 11 (.bin 3 4 (.t 9) (.c (.int 1 (.ofNat 0)))),p_ 1 10 (m_ 11)]) (.cond (.t 10) (.seq (g_ 16 [r_ 0 12 (.ld true 18 (.t 2)),p_ 1 13 (m_ 1),c_ 2 14 82 [(.t 12),(.t 13)],p_ 3 15 (m_ 14),am 4 16 15 true (f_ 13 2),aU 5 17 15 true (.ld true 2 (.t 16)),aU 6 18 15 true (.ld true 2 (.t 5)),am 7 19 15 true (.eqs false 2 (.st [(0,1,false,.int),(1,1,false,.str)]) (.t 17) (.t 18)),p_ 8 20 (.pick (.t 15) (.t 19) (.c (.bool false))),p_ 9 21 (m_ 20),am 10 22 21 true (f_ 15 2),aU 11 23 21 true (l_ 22),am 12 24 21 true (k_ 23),am 13 25 21 true (.bin 3 4 (.t 24) (i_ 0)),p_ 14 26 (.pick (.t 21) (.t 25) (.c (.bool false))),p_ 15 4 (m_ 26)]) .ret) (.seq (g_ 2 [p_ 0 28 (.bin 3 4 (.t 9) (.c (.int 1 (.ofNat 3)))),p_ 1 27 (m_ 28)]) (.cond (.t 27) (.seq (g_ 25 [r_ 0 29 (.ld true 18 (.t 2)),p_ 1 30 (m_ 1),c_ 2 31 82 [(.t 29),(.t 30)],p_ 3 32 (m_ 31),am 4 33 32 true (f_ 13 2),aU 5 34 32 true (.ld true 2 (.t 33)),da 6 35 32 true 83 [.t 34],p_ 7 36 (.pick (.t 32) (.t 35) (.c (.bool false))),p_ 8 37 (m_ 36),am 9 38 37 true (f_ 13 2),am 10 39 37 true (f_ 0 38),aU 11 40 37 true (l_ 39),am 12 41 37 true (.bin 3 5 (.t 40) (.c (.int 1 (.ofNat 4)))),p_ 13 42 (.pick (.t 37) (.t 41) (.c (.bool false))),p_ 14 43 (m_ 42),am 15 44 43 true (f_ 13 2),am 16 45 43 true (f_ 0 44),aU 17 46 43 true (l_ 45),am 18 47 43 true (.bin 3 5 (.t 46) (.c (.int 1 (.ofNat 3)))),p_ 19 48 (.pick (.t 43) (.t 47) (.c (.bool false))),p_ 20 49 (m_ 48),aU 21 50 49 true (.ld true 18 (.t 2)),da 22 51 49 true 84 [.t 50],p_ 23 52 (.pick (.t 49) (.t 51) (.c (.bool false))),p_ 24 4 (m_ 52)]) .ret) (.seq (g_ 2 [p_ 0 54 (.bin 3 4 (.t 9) (.c (.int 1 (.ofNat 1)))),p_ 1 53 (m_ 54)]) (.cond (.t 53) (.seq (g_ 4 [p_ 0 55 (f_ 1 2),r_ 1 56 (.ld true 10 (.t 55)),e_ 2 6 (.al 62 [(.int 1 (.ofNat 0)),(.int 2 (.ofNat 0)),(.int 3 (.ofNat 0)),(.int 1 (.ofNat 0)),(.int 1 (.ofNat 0)),(.int 1 (.ofNat 0)),(.int 1 (.ofNat 0)),(.int 1 (.ofNat 0)),(.int 1 (.ofNat 0)),(.int 1 (.ofNat 0))]),bm 3 (.st 10 (.t 6) (.t 56))]) (.seq (g_ 34 [r_ 0 57 (.ld true 10 (.t 6)),c_ 1 58 85 [.t 57],p_ 2 59 (m_ 58),am 3 60 59 true (f_ 3 6),aU 4 61 59 true (l_ 60),am 5 62 59 true (.bin 3 2 (.t 61) (.c (.int 1 (.ofNat 0)))),p_ 6 63 (.pick (.t 59) (.t 62) (.c (.bool false))),p_ 7 64 (m_ 63),am 8 65 64 true (f_ 3 6),aU 9 66 64 true (l_ 65),am 10 67 64 true (.bin 0 1 (.t 66) (.c (.int 1 (.ofNat 1)))),am 11 68 64 true (f_ 4 6),am 12 69 64 true (.ixa 3 2 (.t 68) (.t 67)),am 13 70 64 true (f_ 0 69),aU 14 71 64 true (l_ 70),am 15 72 64 true (m_ 1),am 16 73 64 true (.bin 3 4 (.t 71) (.t 72)),p_ 17 74 (.pick (.t 64) (.t 73) (.c (.bool false))),p_ 18 75 (m_ 74),am 19 76 75 true (f_ 13 2),aU 20 77 75 true (.ld true 2 (.t 76)),da 21 78 75 true 83 [.t 77],p_ 22 79 (.pick (.t 75) (.t 78) (.c (.bool false))),p_ 23 80 (m_ 79),aU 24 81 80 true (.ld true 18 (.t 2)),da 25 82 80 true 86 [.t 81],p_ 26 83 (.pick (.t 80) (.t 82) (.c (.bool false))),p_ 27 84 (m_ 83),am 28 85 84 true (f_ 16 2),aU 29 86 84 true (.ld true 2 (.t 85)),am 30 87 84 true (.bld [(.int 1 (.ofNat 0)),(.int 2 (.ofNat 0))] [] []),am 31 88 84 true (.eqs false 2 (.st [(0,1,false,.int),(1,1,false,.int)]) (.t 86) (.t 87)),p_ 32 89 (.pick (.t 84) (.t 88) (.c (.bool false))),p_ 33 4 (m_ 89)]) .ret)) (.seq (g_ 2 [p_ 0 91 (.bin 3 4 (.t 9) (.c (.int 1 (.ofNat 2)))),p_ 1 90 (m_ 91)]) (.cond (.t 90) (.seq (g_ 20 [p_ 0 92 (f_ 16 2),r_ 1 93 (.ld true 2 (.t 92)),c_ 2 94 44 [.t 93],p_ 3 95 (m_ 94),am 4 96 95 true (f_ 13 2),aU 5 97 95 true (.ld true 2 (.t 96)),aU 6 98 95 true (.ld true 2 (.t 5)),am 7 99 95 true (.eqs false 2 (.st [(0,1,false,.int),(1,1,false,.str)]) (.t 97) (.t 98)),p_ 8 100 (.pick (.t 95) (.t 99) (.c (.bool false))),p_ 9 101 (m_ 100),am 10 102 101 true (f_ 1 2),aU 11 103 101 true (.ld true 10 (.t 102)),am 12 104 101 true (.bld [(.int 1 (.ofNat 0)),(.int 2 (.ofNat 0)),(.int 3 (.ofNat 0)),(.int 1 (.ofNat 0)),(.int 1 (.ofNat 0)),(.int 1 (.ofNat 0)),(.int 1 (.ofNat 0)),(.int 1 (.ofNat 0)),(.int 1 (.ofNat 0)),(.int 1 (.ofNat 0))] [] []),am 13 105 101 true (.eqs false 4 (.st [(0,2,true,(.st [(0,1,false,.int),(1,1,false,.int)])),(2,1,false,.int),(3,1,false,.int),(4,6,true,(.ar [0,2,4] 2 true (.st [(0,1,false,.int),(1,1,false,.int)])))]) (.t 103) (.t 104)),p_ 14 106 (.pick (.t 101) (.t 105) (.c (.bool false))),p_ 15 107 (m_ 106),aU 16 108 107 true (.ld true 18 (.t 2)),da 17 109 107 true 86 [.t 108],p_ 18 110 (.pick (.t 107) (.t 109) (.c (.bool false))),p_ 19 4 (m_ 110)]) .ret) .skip)))))))))) (.seq (g_ 1 [p_ 0 4 (.mv (.c (.bool false)))]) .ret))))
theorem agK:aN 66 agL:=⟨by kernel_rfl,by kernel_rfl⟩
def agJ:XF:=.mk 12 (.cell 2 true 18) (.seq (g_ 2 [e_ 0 1 (.box 68 (.t 0)),e_ 1 2 (.al 68 [(.int 1 (.ofNat 0)),(.int 1 (.ofNat 0)),(.int 2 (.ofNat 0)),(.int 3 (.ofNat 0)),(.int 1 (.ofNat 0)),(.int 1 (.ofNat 0)),(.int 1 (.ofNat 0)),(.int 1 (.ofNat 0)),(.int 1 (.ofNat 0)),(.int 1 (.ofNat 0)),(.int 1 (.ofNat 0)),(.int 3 (.ofNat 0)),.nilS,(.int 1 (.ofNat 0)),(.str []),.nilS,(.int 1 (.ofNat 0)),(.int 2 (.ofNat 0))])]) (.seq (h_ 10 [p_ 0 3 (f_ 12 1),r_ 1 4 (l_ 3),p_ 3 6 (f_ 15 1),r_ 4 7 (l_ 6),c_ 2 5 87 [.t 4],a_ 4 7 (l_ 6),p_ 6 9 (f_ 12 1),c_ 5 8 88 [.t 7],bm 7 (.st 1 (.t 9) (.t 5)),p_ 8 10 (f_ 15 1),bm 9 (.st 1 (.t 10) (.t 8))]) (.seq (g_ 2 [r_ 0 11 (.ld true 18 (.t 1)),bm 1 (.st 18 (.t 2) (.t 11))]) .ret)))
theorem agI:aN 67 agJ:=⟨by kernel_rfl,by kernel_rfl⟩
def agH:XF:=.mk 58 .none (.seq (h_ 14 [p_ 0 5 (m_ 0),p_ 1 6 (n_ 5),p_ 2 7 (f_ 9 6),r_ 3 8 (l_ 7),p_ 4 9 (m_ 0),p_ 5 10 (n_ 9),p_ 6 11 (f_ 3 10),r_ 7 12 (.ld true 2 (.t 11)),p_ 8 13 (m_ 0),p_ 9 14 (n_ 13),p_ 10 15 (f_ 5 14),r_ 11 16 (l_ 15),p_ 12 17 (k_ 16),bm 13 (.mu 2 (.st [(0,1,false,.int),(1,1,false,.int)]) (.t 8) (.t 12) (.t 17))]) (.seq (g_ 7 [p_ 0 18 (m_ 0),p_ 1 19 (n_ 18),p_ 2 20 (f_ 9 19),r_ 3 21 (l_ 20),r_ 4 22 (.mlen (.t 21)),e_ 5 23 (.mks 3 1 8 [(o_ 0)] (i_ 0) (.t 22)),p_ 6 2 (m_ 23)]) (.seq (.seq (g_ 5 [p_ 0 24 (m_ 0),p_ 1 25 (n_ 24),p_ 2 26 (f_ 9 25),r_ 3 27 (l_ 26),e_ 4 28 (.rng (.t 27))]) (.block 2 (.loop [0,2,4,28,29,30,31,32,33,34,35,36,37,39,40,41,42,43,44,45,46,47,48,49,50,51,52,53,54,55,56,57] (.seq (g_ 2 [e_ 0 29 (.nxt (.t 28)),p_ 1 30 (.ext 0 (.t 29))]) (.seq (.cond (.t 30) .skip (.exit 2)) (.block 3 (.seq (g_ 3 [r_ 0 31 (.ent (.t 28)),p_ 1 32 (.ext 1 (.t 31)),p_ 2 4 (m_ 32)]) (g_ 5 [p_ 0 33 (m_ 2),p_ 1 34 (m_ 4),e_ 2 35 (.bsl 3 1 1 [(o_ 0)] [(0,1)] [.t 34]),e_ 3 36 (.app 3 1 8 (.t 33) (.t 35)),p_ 4 2 (m_ 36)])))))))) (.seq (g_ 2 [p_ 0 37 (m_ 2),c_ 1 38 89 [.t 37]]) (h_ 20 [p_ 0 39 (m_ 0),p_ 1 40 (m_ 0),p_ 2 41 (n_ 40),p_ 3 42 (f_ 7 41),r_ 4 43 (l_ 42),p_ 5 44 (m_ 2),p_ 6 45 (m_ 2),p_ 7 46 (k_ 45),p_ 8 47 (m_ 0),p_ 9 48 (n_ 47),p_ 10 49 (f_ 0 48),r_ 11 50 (.ld true 3 (.t 49)),c_ 12 51 90 [.t 50],a_ 4 43 (l_ 42),p_ 13 52 (.bin 0 1 (.t 46) (.t 51)),p_ 14 53 (.ixs 1 (.t 44) (.t 52)),r_ 15 54 (l_ 53),p_ 16 55 (.mx true (.t 43) (.t 54)),p_ 17 56 (n_ 39),p_ 18 57 (f_ 7 56),bm 19 (.st 1 (.t 57) (.t 55))])))))
theorem agG:aN 68 agH:=⟨by kernel_rfl,by kernel_rfl⟩
def agF:XF:=.mk 40 (.one 6) (.seq (g_ 3 [e_ 0 4 (.box 52 (.t 1)),e_ 1 5 (.box 74 (.t 2)),p_ 2 6 (.mv (.c (.bool false)))]) (.seq (g_ 3 [p_ 0 8 (f_ 1 5),r_ 1 9 (l_ 8),p_ 2 7 (m_ 9)]) (.seq (.seq (g_ 3 [p_ 0 10 (f_ 0 5),r_ 1 11 (l_ 10),p_ 2 12 (.bin 3 4 (.t 11) (.c (.int 1 (.ofNat 10))))]) (.cond (.t 12) (g_ 4 [p_ 0 13 (f_ 22 5),p_ 1 14 (f_ 0 13),r_ 2 15 (l_ 14),p_ 3 7 (m_ 15)]) .skip)) (.seq (g_ 25 [p_ 0 16 (m_ 7),p_ 1 17 (m_ 0),p_ 2 18 (n_ 17),p_ 3 19 (f_ 7 18),r_ 4 20 (l_ 19),p_ 5 21 (.bin 3 4 (.t 16) (.t 20)),p_ 6 22 (m_ 21),am 7 23 22 true (f_ 0 5),aU 8 24 22 true (l_ 23),am 9 25 22 true (.bin 3 3 (.t 24) (.c (.int 1 (.ofNat 3)))),p_ 10 26 (.pick (.t 22) (.t 25) (.c (.bool false))),p_ 11 27 (m_ 26),am 12 28 27 true (f_ 0 5),aU 13 29 27 true (l_ 28),am 14 30 27 true (.bin 3 1 (.t 29) (.c (.int 1 (.ofNat 12)))),p_ 15 31 (.pick (.t 27) (.t 30) (.c (.bool false))),p_ 16 32 (m_ 31),aU 17 33 32 true (.ld true 31 (.t 5)),da 18 34 32 true 108 [.t 33],p_ 19 35 (.pick (.t 32) (.t 34) (.c (.bool false))),p_ 20 36 (m_ 35),aU 21 37 36 true (.ld true 2 (.t 4)),da 22 38 36 true 44 [.t 37],p_ 23 39 (.pick (.t 36) (.t 38) (.c (.bool false))),p_ 24 6 (m_ 39)]) .ret))))
theorem agE:aN 74 agF:=⟨by kernel_rfl,by kernel_rfl⟩
def agD:XF:=.mk 89 (.one 6) (.seq (g_ 3 [e_ 0 4 (.box 52 (.t 1)),e_ 1 5 (.box 74 (.t 2)),p_ 2 6 (.mv (.c .nilS))]) (.seq (g_ 4 [p_ 0 9 (m_ 0),c_ 1 10 91 [(.t 9),(.c (.int 1 (.ofNat 4)))],e_ 2 7 (.al 74 [(.int 1 (.ofNat 0)),(.int 1 (.ofNat 0)),(.int 1 (.ofNat 0)),(.int 3 (.ofNat 0)),(.int 3 (.ofNat 0)),(.int 3 (.ofNat 0)),(.int 3 (.ofNat 0)),(.int 4 (.ofNat 0)),(.int 4 (.ofNat 0)),(.int 1 (.ofNat 0)),(.int 2 (.ofNat 0)),(.int 3 (.ofNat 0)),(.int 1 (.ofNat 0)),(.int 1 (.ofNat 0)),(.int 1 (.ofNat 0)),(.int 1 (.ofNat 0)),(.int 1 (.ofNat 0)),(.int 1 (.ofNat 0)),(.int 1 (.ofNat 0)),.nilS,(.int 1 (.ofNat 0)),(.str []),(.int 1 (.ofNat 0)),(.int 3 (.ofNat 0)),.nilS,(.int 1 (.ofNat 0)),(.int 2 (.ofNat 0)),(.bool false),.nilS,.nilS,.nilS]),bm 3 (.st 31 (.t 7) (.t 10))]) (.seq (.seq (g_ 8 [p_ 0 11 (m_ 0),p_ 1 12 (n_ 11),p_ 2 13 (f_ 0 12),p_ 3 14 (f_ 0 13),r_ 4 15 (.ld true 3 (.t 14)),c_ 5 16 41 [.t 15],e_ 6 8 (.al 52 [(.int 1 (.ofNat 0)),(.int 2 (.ofNat 0))]),bm 7 (.st 2 (.t 8) (.t 16))]) (.block 2 (.seq (h_ 14 [p_ 0 18 (m_ 0),c_ 1 19 19 [.t 18],p_ 2 20 (m_ 19),am 3 21 20 true (f_ 3 5),aU 4 22 20 true (l_ 21),am 5 23 20 true (m_ 0),am 6 24 20 true (n_ 23),am 7 25 20 true (f_ 0 24),am 8 26 20 true (f_ 0 25),am 9 27 20 true (f_ 1 26),aU 10 28 20 true (l_ 27),am 11 29 20 true (.bin 3 4 (.t 22) (.t 28)),p_ 12 30 (.pick (.t 20) (.t 29) (.c (.bool false))),p_ 13 17 (m_ 30)]) (.cond (.t 17) (.seq (.seq (h_ 11 [p_ 0 31 (m_ 0),p_ 1 32 (n_ 31),p_ 2 33 (f_ 8 32),r_ 3 34 (.ld true 2 (.t 33)),r_ 4 35 (.ld true 2 (.t 8)),p_ 5 36 (.eqs false 2 (.st [(0,1,false,.int),(1,1,false,.int)]) (.t 34) (.t 35)),p_ 6 37 (m_ 36),aU 7 38 37 false (.ld true 2 (.t 4)),aU 8 39 37 false (.ld true 2 (.t 8)),am 9 40 37 false (.eqs true 2 (.st [(0,1,false,.int),(1,1,false,.int)]) (.t 38) (.t 39)),p_ 10 41 (.pick (.t 37) (.c (.bool true)) (.t 40))]) (.cond (.t 41) (.seq (g_ 1 [p_ 0 6 (.mv (.c .nilS))]) .ret) .skip)) (.seq (h_ 14 [p_ 0 42 (m_ 0),p_ 1 43 (n_ 42),p_ 2 44 (f_ 0 43),p_ 3 45 (f_ 3 44),r_ 4 46 (l_ 45),p_ 5 47 (f_ 4 5),r_ 6 48 (l_ 47),p_ 7 49 (.cnv 0 (.t 48)),p_ 8 50 (f_ 29 5),r_ 9 51 (l_ 50),p_ 10 52 (f_ 5 5),r_ 11 53 (l_ 52),p_ 12 54 (.cnv 0 (.t 53)),c_ 13 55 109 [(.t 46),(.t 49),(.t 51),(.t 54)]]) (g_ 9 [p_ 0 56 (m_ 0),p_ 1 57 (n_ 56),p_ 2 58 (f_ 0 57),p_ 3 59 (f_ 3 58),r_ 4 60 (l_ 59),c_ 5 61 110 [.t 60],p_ 6 62 (.cnv 3 (.t 61)),p_ 7 63 (f_ 4 7),bm 8 (.st 1 (.t 63) (.t 62))]))) (.seq (h_ 8 [p_ 0 65 (f_ 3 5),r_ 1 66 (l_ 65),p_ 2 67 (m_ 0),p_ 3 68 (n_ 67),p_ 4 69 (f_ 15 68),r_ 5 70 (l_ 69),p_ 6 71 (.bin 3 1 (.t 66) (.t 70)),p_ 7 64 (m_ 71)]) (.cond (.t 64) (.seq (g_ 1 [p_ 0 6 (.mv (.c .nilS))]) .ret) (.seq (g_ 4 [p_ 0 73 (m_ 0),c_ 1 74 19 [.t 73],p_ 2 75 (.un 0 (.t 74)),p_ 3 72 (m_ 75)]) (.cond (.t 72) (h_ 10 [p_ 0 76 (m_ 0),p_ 1 77 (n_ 76),p_ 2 78 (f_ 7 77),r_ 3 79 (l_ 78),p_ 4 80 (m_ 0),p_ 5 81 (n_ 80),p_ 6 82 (f_ 8 81),r_ 7 83 (.ld true 2 (.t 82)),p_ 8 84 (.bld [(.int 1 (.ofNat 0)),(.int 1 (.ofNat 0)),(.int 1 (.ofNat 0)),(.int 3 (.ofNat 0)),(.int 3 (.ofNat 0)),(.int 3 (.ofNat 0)),(.int 3 (.ofNat 0)),(.int 4 (.ofNat 0)),(.int 4 (.ofNat 0)),(.int 1 (.ofNat 0)),(.int 2 (.ofNat 0)),(.int 3 (.ofNat 0)),(.int 1 (.ofNat 0)),(.int 1 (.ofNat 0)),(.int 1 (.ofNat 0)),(.int 1 (.ofNat 0)),(.int 1 (.ofNat 0)),(.int 1 (.ofNat 0)),(.int 1 (.ofNat 0)),.nilS,(.int 1 (.ofNat 0)),(.str []),(.int 1 (.ofNat 0)),(.int 3 (.ofNat 0)),.nilS,(.int 1 (.ofNat 0)),(.int 2 (.ofNat 0)),(.bool false),.nilS,.nilS,.nilS] [(0,1),(1,1),(25,2)] [(.c (.int 1 (.ofNat 11))),(.t 79),(.t 83)]),bm 9 (.st 31 (.t 7) (.t 84))]) .skip)))))))) (.seq (g_ 5 [r_ 0 85 (.ld true 2 (.t 4)),r_ 1 86 (.ld true 31 (.t 7)),p_ 2 87 (.bld [(.int 1 (.ofNat 0)),(.int 2 (.ofNat 0)),(.int 1 (.ofNat 0)),(.int 1 (.ofNat 0)),(.int 1 (.ofNat 0)),(.int 3 (.ofNat 0)),(.int 3 (.ofNat 0)),(.int 3 (.ofNat 0)),(.int 3 (.ofNat 0)),(.int 4 (.ofNat 0)),(.int 4 (.ofNat 0)),(.int 1 (.ofNat 0)),(.int 2 (.ofNat 0)),(.int 3 (.ofNat 0)),(.int 1 (.ofNat 0)),(.int 1 (.ofNat 0)),(.int 1 (.ofNat 0)),(.int 1 (.ofNat 0)),(.int 1 (.ofNat 0)),(.int 1 (.ofNat 0)),(.int 1 (.ofNat 0)),.nilS,(.int 1 (.ofNat 0)),(.str []),(.int 1 (.ofNat 0)),(.int 3 (.ofNat 0)),.nilS,(.int 1 (.ofNat 0)),(.int 2 (.ofNat 0)),(.bool false),.nilS,.nilS,.nilS] [(0,2),(2,31)] [(.t 85),(.t 86)]),e_ 3 88 (.bsl 118 33 1 [(.int 1 (.ofNat 0)),(.int 2 (.ofNat 0)),(.int 1 (.ofNat 0)),(.int 1 (.ofNat 0)),(.int 1 (.ofNat 0)),(.int 3 (.ofNat 0)),(.int 3 (.ofNat 0)),(.int 3 (.ofNat 0)),(.int 3 (.ofNat 0)),(.int 4 (.ofNat 0)),(.int 4 (.ofNat 0)),(.int 1 (.ofNat 0)),(.int 2 (.ofNat 0)),(.int 3 (.ofNat 0)),(.int 1 (.ofNat 0)),(.int 1 (.ofNat 0)),(.int 1 (.ofNat 0)),(.int 1 (.ofNat 0)),(.int 1 (.ofNat 0)),(.int 1 (.ofNat 0)),(.int 1 (.ofNat 0)),.nilS,(.int 1 (.ofNat 0)),(.str []),(.int 1 (.ofNat 0)),(.int 3 (.ofNat 0)),.nilS,(.int 1 (.ofNat 0)),(.int 2 (.ofNat 0)),(.bool false),.nilS,.nilS,.nilS] [(0,33)] [.t 87]),p_ 4 6 (m_ 88)]) .ret))))
theorem agC:aN 75 agD:=⟨by kernel_rfl,by kernel_rfl⟩
def agB:XF:=.mk 125 (.one 8) (.seq (g_ 3 [e_ 0 6 (.box 52 (.t 2)),e_ 1 7 (.box 74 (.t 3)),p_ 2 8 (.mv (.c .nilS))]) (.seq (g_ 8 [p_ 0 10 (m_ 0),p_ 1 11 (n_ 10),p_ 2 12 (f_ 0 11),p_ 3 13 (f_ 3 12),r_ 4 14 (l_ 13),c_ 5 15 111 [.t 14],p_ 6 16 (.bin 0 1 (i_ 400) (.t 15)),p_ 7 9 (m_ 16)]) (.seq (.seq (g_ 17 [p_ 0 17 (f_ 7 7),r_ 1 18 (l_ 17),p_ 2 19 (.bin 3 2 (.t 18) (.c (.int 4 (.ofNat 0)))),p_ 3 20 (m_ 19),am 4 21 20 true (f_ 29 7),aU 5 22 20 true (l_ 21),am 6 23 20 true (k_ 22),am 7 24 20 true (m_ 9),am 8 25 20 true (.bin 3 2 (.t 23) (.t 24)),am 9 26 20 true (m_ 25),am 10 27 26 false (f_ 30 7),aU 11 28 26 false (l_ 27),am 12 29 26 false (k_ 28),am 13 30 26 false (m_ 9),am 14 31 26 false (.bin 3 2 (.t 29) (.t 30)),am 15 32 20 true (.pick (.t 26) (.c (.bool true)) (.t 31)),p_ 16 33 (.pick (.t 20) (.t 32) (.c (.bool false)))]) (.cond (.t 33) (.seq (g_ 1 [p_ 0 8 (.mv (.c .nilS))]) .ret) .skip)) (.seq (h_ 12 [p_ 0 34 (m_ 0),p_ 1 35 (m_ 0),p_ 2 36 (n_ 35),p_ 3 37 (f_ 16 36),r_ 4 38 (l_ 37),p_ 5 39 (f_ 7 7),r_ 6 40 (l_ 39),c_ 7 41 114 [.t 40],a_ 4 38 (l_ 37),p_ 8 42 (.mx true (.t 38) (.t 41)),p_ 9 43 (n_ 34),p_ 10 44 (f_ 16 43),bm 11 (.st 1 (.t 44) (.t 42))]) (.seq (.seq (g_ 2 [p_ 0 45 (f_ 0 7),r_ 1 46 (l_ 45)]) (.block 2 (.seq (g_ 2 [p_ 0 48 (.bin 3 4 (.t 46) (.c (.int 1 (.ofNat 4)))),p_ 1 47 (m_ 48)]) (.cond (.t 47) (.seq (h_ 10 [p_ 0 49 (m_ 0),p_ 1 50 (n_ 49),p_ 2 51 (f_ 0 50),p_ 3 52 (f_ 3 51),r_ 4 53 (l_ 52),r_ 5 54 (.ld true 2 (.t 6)),p_ 6 55 (f_ 4 7),r_ 7 56 (l_ 55),p_ 8 57 (.cnv 0 (.t 56)),c_ 9 58 115 [(.t 53),(.t 54),(.t 57)]]) (.seq (g_ 1 [p_ 0 8 (.mv (.c .nilS))]) .ret)) (.seq (.seq (g_ 2 [p_ 0 60 (.bin 3 4 (.t 46) (.c (.int 1 (.ofNat 5)))),p_ 1 59 (m_ 60)]) (.cond (.t 59) .skip (g_ 2 [p_ 0 61 (.bin 3 4 (.t 46) (.c (.int 1 (.ofNat 9)))),p_ 1 59 (m_ 61)]))) (.cond (.t 59) (.seq (g_ 6 [p_ 0 62 (m_ 0),p_ 1 63 (m_ 1),r_ 2 64 (.ld true 2 (.t 6)),r_ 3 65 (.ld true 31 (.t 7)),c_ 4 66 116 [(.t 62),(.t 63),(.t 64),(.t 65)],p_ 5 8 (m_ 66)]) .ret) .skip)))))) (.seq (.block 3 (.seq (g_ 7 [p_ 0 75 (m_ 0),p_ 1 76 (n_ 75),p_ 2 77 (f_ 0 76),p_ 3 78 (f_ 5 77),r_ 4 79 (l_ 78),p_ 5 80 (.isn false 1 (.t 79)),p_ 6 74 (m_ 80)]) (.cond (.t 74) (.seq (g_ 1 [p_ 0 8 (.mv (.c .nilS))]) .ret) (.seq (g_ 4 [p_ 0 82 (f_ 0 7),r_ 1 83 (l_ 82),p_ 2 84 (.bin 3 4 (.t 83) (.c (.int 1 (.ofNat 7)))),p_ 3 81 (m_ 84)]) (.cond (.t 81) (.seq (g_ 5 [p_ 0 85 (m_ 0),p_ 1 86 (m_ 1),p_ 2 87 (f_ 7 7),r_ 3 88 (l_ 87),c_ 4 89 117 [(.t 85),(.t 86),(.t 88)]]) (.seq (g_ 1 [p_ 0 8 (.mv (.c .nilS))]) .ret)) (.seq (h_ 10 [p_ 0 91 (f_ 7 7),r_ 1 92 (l_ 91),p_ 2 93 (m_ 0),p_ 3 94 (n_ 93),p_ 4 95 (f_ 0 94),p_ 5 96 (f_ 5 95),r_ 6 97 (l_ 96),c_ 7 98 95 [.t 97],a_ 1 92 (l_ 91),p_ 8 99 (.bin 3 5 (.t 92) (.t 98)),p_ 9 90 (m_ 99)]) (.cond (.t 90) (.seq (g_ 1 [p_ 0 8 (.mv (.c .nilS))]) .ret) (.seq (g_ 4 [p_ 0 101 (f_ 0 7),r_ 1 102 (l_ 101),p_ 2 103 (.bin 3 4 (.t 102) (.c (.int 1 (.ofNat 8)))),p_ 3 100 (m_ 103)]) (.cond (.t 100) (h_ 18 [p_ 0 104 (m_ 0),p_ 1 105 (n_ 104),p_ 2 106 (f_ 0 105),p_ 3 107 (f_ 5 106),r_ 4 108 (l_ 107),r_ 5 109 (.ld true 2 (.t 6)),p_ 6 110 (f_ 29 7),r_ 7 111 (l_ 110),p_ 8 112 (f_ 8 7),r_ 9 113 (l_ 112),p_ 10 114 (f_ 28 7),r_ 11 115 (l_ 114),p_ 12 116 (f_ 30 7),r_ 13 117 (l_ 116),p_ 14 118 (.bld [.nilS,.nilS] [(0,1),(1,1)] [(.t 115),(.t 117)]),p_ 15 119 (f_ 27 7),r_ 16 120 (l_ 119),c_ 17 121 105 [(.t 108),(.t 109),(.t 111),(.t 113),(.t 118),(.t 120)]]) (h_ 7 [p_ 0 67 (m_ 0),p_ 1 68 (n_ 67),p_ 2 69 (f_ 0 68),p_ 3 70 (f_ 5 69),r_ 4 71 (l_ 70),r_ 5 72 (.ld true 2 (.t 6)),c_ 6 73 118 [(.t 71),(.t 72)]])))))))))) (.seq (g_ 4 [p_ 0 122 (m_ 0),p_ 1 123 (m_ 1),c_ 2 124 107 [(.t 122),(.t 123)],p_ 3 8 (m_ 124)]) .ret)))))))
theorem agA:aN 78 agB:=⟨by kernel_rfl,by kernel_rfl⟩
def agz:XF:=.mk 26 (.one 4) (.seq (g_ 1 [p_ 0 4 (.mv (.c (.bool false)))]) (.seq (.seq (g_ 5 [p_ 0 6 (m_ 0),p_ 1 7 (k_ 6),p_ 2 8 (m_ 1),p_ 3 9 (k_ 8),p_ 4 10 (.bin 3 5 (.t 7) (.t 9))]) (.cond (.t 10) (.seq (g_ 1 [p_ 0 4 (.mv (.c (.bool false)))]) .ret) .skip)) (.seq (.seq (g_ 3 [p_ 0 11 (m_ 0),p_ 1 12 (k_ 11),p_ 2 13 (.mv (i_ 0))]) (.block 2 (.loop [0,1,4,5,12,13,14,15,16,17,18,19,20,21,22,23,24,25] (.seq (g_ 1 [p_ 0 14 (.bin 3 0 (.t 13) (.t 12))]) (.seq (.cond (.t 14) .skip (.exit 2)) (.seq (.block 3 (.seq (g_ 2 [p_ 0 15 (m_ 13),p_ 1 5 (m_ 15)]) (.seq (h_ 9 [p_ 0 16 (m_ 0),p_ 1 17 (m_ 5),p_ 2 18 (.ixs 5 (.t 16) (.t 17)),r_ 3 19 (.ld true 5 (.t 18)),p_ 4 20 (m_ 1),p_ 5 21 (m_ 5),p_ 6 22 (.ixs 5 (.t 20) (.t 21)),r_ 7 23 (.ld true 5 (.t 22)),p_ 8 24 (.eqs true 2 (.st [(0,1,false,.int),(1,1,false,.int),(2,1,false,.str),(3,1,false,.str),(4,1,false,.int)]) (.t 19) (.t 23))]) (.cond (.t 24) (.seq (g_ 1 [p_ 0 4 (.mv (.c (.bool false)))]) .ret) .skip)))) (g_ 2 [p_ 0 25 (.bin 0 0 (.t 13) (i_ 1)),p_ 1 13 (m_ 25)]))))))) (.seq (g_ 1 [p_ 0 4 (.mv (.c (.bool true)))]) .ret))))
theorem agy:aN 79 agz:=⟨by kernel_rfl,by kernel_rfl⟩
def agx:XF:=.mk 42 (.one 4) (.seq (g_ 1 [p_ 0 4 (.mv (.c .nilS))]) (.seq (g_ 4 [p_ 0 8 (m_ 0),p_ 1 9 (m_ 1),c_ 2 10 112 [(.t 8),(.t 9)],p_ 3 5 (m_ 10)]) (.seq (.seq (g_ 2 [p_ 0 11 (m_ 5),p_ 1 12 (.bin 3 4 (.t 11) (.c (.int 0 (.negSucc 0))))]) (.cond (.t 12) (.seq (g_ 2 [p_ 0 13 (m_ 0),p_ 1 4 (m_ 13)]) .ret) .skip)) (.seq (.seq (g_ 3 [p_ 0 14 (m_ 5),p_ 1 15 (.bin 0 0 (.t 14) (i_ 1)),p_ 2 6 (m_ 15)]) (.block 2 (.loop [0,1,4,5,6,7,16,17,18,19,20,21,22,23,24,25,26,27,28,29,30,31,32,33,34,35,36,37,38,39,40,41] (.seq (.seq (g_ 4 [p_ 0 16 (m_ 6),p_ 1 17 (m_ 0),p_ 2 18 (k_ 17),p_ 3 19 (.bin 3 0 (.t 16) (.t 18))]) (.cond (.t 19) .skip (.exit 2))) (.seq (.block 3 (.seq (g_ 6 [p_ 0 22 (m_ 0),p_ 1 23 (m_ 6),p_ 2 24 (.ixs 2 (.t 22) (.t 23)),r_ 3 25 (.ld true 2 (.t 24)),e_ 4 7 (.al 52 [(.int 1 (.ofNat 0)),(.int 2 (.ofNat 0))]),bm 5 (.st 2 (.t 7) (.t 25))]) (.seq (g_ 4 [p_ 0 26 (m_ 1),r_ 1 27 (.ld true 2 (.t 7)),.k 2 (some 28) none 26 [81] [.t 27],p_ 3 29 (.un 0 (.t 28))]) (.cond (.t 29) (.seq (g_ 5 [p_ 0 30 (m_ 0),p_ 1 31 (m_ 5),r_ 2 32 (.ld true 2 (.t 7)),p_ 3 33 (.ixs 2 (.t 30) (.t 31)),bm 4 (.st 2 (.t 33) (.t 32))]) (g_ 3 [p_ 0 34 (m_ 5),p_ 1 35 (.bin 0 0 (.t 34) (i_ 1)),p_ 2 5 (m_ 35)])) .skip)))) (g_ 3 [p_ 0 20 (m_ 6),p_ 1 21 (.bin 0 0 (.t 20) (i_ 1)),p_ 2 6 (m_ 21)])))))) (.seq (g_ 4 [p_ 0 36 (m_ 0),p_ 1 37 (m_ 5),r_ 2 38 (.sls 2 (.t 36) (some (.t 37)) none none),bm 3 (.clr 52 [(.int 1 (.ofNat 0)),(.int 2 (.ofNat 0))] (.t 38))]) (.seq (g_ 4 [p_ 0 39 (m_ 0),p_ 1 40 (m_ 5),r_ 2 41 (.sls 2 (.t 39) none (some (.t 40)) none),p_ 3 4 (m_ 41)]) .ret))))))
theorem agw:aN 80 agx:=⟨by kernel_rfl,by kernel_rfl⟩
def agv:XF:=.mk 18 (.one 2) (.seq (g_ 2 [e_ 0 1 (.box 68 (.t 0)),p_ 1 2 (.mv (.c (.bool false)))]) (.seq (g_ 16 [p_ 0 3 (f_ 11 1),r_ 1 4 (l_ 3),p_ 2 5 (.bin 3 4 (.t 4) (.c (.int 3 (.ofNat 0)))),p_ 3 6 (m_ 5),am 4 7 6 true (f_ 12 1),aU 5 8 6 true (l_ 7),am 6 9 6 true (k_ 8),am 7 10 6 true (.bin 3 4 (.t 9) (i_ 0)),p_ 8 11 (.pick (.t 6) (.t 10) (.c (.bool false))),p_ 9 12 (m_ 11),am 10 13 12 true (f_ 15 1),aU 11 14 12 true (l_ 13),am 12 15 12 true (k_ 14),am 13 16 12 true (.bin 3 4 (.t 15) (i_ 0)),p_ 14 17 (.pick (.t 12) (.t 16) (.c (.bool false))),p_ 15 2 (m_ 17)]) .ret))
theorem agu:aN 86 agv:=⟨by kernel_rfl,by kernel_rfl⟩
def agt:XF:=.mk 8 (.one 2) (.seq (g_ 1 [p_ 0 2 (.mv (.c .nilS))]) (.seq (.seq (g_ 2 [p_ 0 3 (m_ 0),p_ 1 4 (.isn false 2 (.t 3))]) (.cond (.t 4) (.seq (g_ 1 [p_ 0 2 (.mv (.c .nilS))]) .ret) .skip)) (.seq (g_ 4 [e_ 0 5 (.bsl 127 5 0 [] [] []),p_ 1 6 (m_ 0),e_ 2 7 (.app 127 5 48 (.t 5) (.t 6)),p_ 3 2 (m_ 7)]) .ret)))
theorem ags:aN 87 agt:=⟨by kernel_rfl,by kernel_rfl⟩
def agr:XF:=.mk 8 (.one 2) (.seq (g_ 1 [p_ 0 2 (.mv (.c .nilS))]) (.seq (.seq (g_ 2 [p_ 0 3 (m_ 0),p_ 1 4 (.isn false 2 (.t 3))]) (.cond (.t 4) (.seq (g_ 1 [p_ 0 2 (.mv (.c .nilS))]) .ret) .skip)) (.seq (g_ 4 [e_ 0 5 (.bsl 108 3 0 [] [] []),p_ 1 6 (m_ 0),e_ 2 7 (.app 108 3 40 (.t 5) (.t 6)),p_ 3 2 (m_ 7)]) .ret)))
theorem agq:aN 88 agr:=⟨by kernel_rfl,by kernel_rfl⟩
def agp:XF:=.mk 11 .none (.seq (g_ 3 [p_ 0 3 (m_ 0),p_ 1 4 (k_ 3),p_ 2 2 (m_ 4)]) (g_ 6 [p_ 0 5 (m_ 0),p_ 1 6 (m_ 2),p_ 2 7 (m_ 2),p_ 3 8 (.cnv 4 (.t 7)),c_ 4 9 121 [.t 8],c_ 5 10 120 [(.t 5),(i_ 0),(.t 6),(.t 9)]]))
theorem ago:aN 89 agp:=⟨by kernel_rfl,by kernel_rfl⟩
def agn:XF:=.mk 8 (.one 2) (.seq (g_ 2 [e_ 0 1 (.box 45 (.t 0)),p_ 1 2 (.mv (i_ 0))]) (.seq (g_ 6 [p_ 0 3 (f_ 2 1),r_ 1 4 (l_ 3),p_ 2 5 (k_ 4),p_ 3 6 (.bin 0 3 (.t 5) (i_ 2)),p_ 4 7 (.bin 0 0 (.t 6) (i_ 1)),p_ 5 2 (m_ 7)]) .ret))
theorem agm:aN 90 agn:=⟨by kernel_rfl,by kernel_rfl⟩
def agl:XF:=.mk 17 (.cell 4 true 31) (.seq (g_ 1 [e_ 0 4 (.al 74 [(.int 1 (.ofNat 0)),(.int 1 (.ofNat 0)),(.int 1 (.ofNat 0)),(.int 3 (.ofNat 0)),(.int 3 (.ofNat 0)),(.int 3 (.ofNat 0)),(.int 3 (.ofNat 0)),(.int 4 (.ofNat 0)),(.int 4 (.ofNat 0)),(.int 1 (.ofNat 0)),(.int 2 (.ofNat 0)),(.int 3 (.ofNat 0)),(.int 1 (.ofNat 0)),(.int 1 (.ofNat 0)),(.int 1 (.ofNat 0)),(.int 1 (.ofNat 0)),(.int 1 (.ofNat 0)),(.int 1 (.ofNat 0)),(.int 1 (.ofNat 0)),.nilS,(.int 1 (.ofNat 0)),(.str []),(.int 1 (.ofNat 0)),(.int 3 (.ofNat 0)),.nilS,(.int 1 (.ofNat 0)),(.int 2 (.ofNat 0)),(.bool false),.nilS,.nilS,.nilS])]) (.seq (h_ 13 [p_ 0 5 (m_ 1),p_ 1 6 (m_ 0),p_ 2 7 (n_ 6),p_ 3 8 (f_ 7 7),r_ 4 9 (l_ 8),p_ 5 10 (m_ 0),p_ 6 11 (n_ 10),p_ 7 12 (f_ 0 11),p_ 8 13 (f_ 0 12),p_ 9 14 (f_ 1 13),r_ 10 15 (l_ 14),p_ 11 16 (.bld [(.int 1 (.ofNat 0)),(.int 1 (.ofNat 0)),(.int 1 (.ofNat 0)),(.int 3 (.ofNat 0)),(.int 3 (.ofNat 0)),(.int 3 (.ofNat 0)),(.int 3 (.ofNat 0)),(.int 4 (.ofNat 0)),(.int 4 (.ofNat 0)),(.int 1 (.ofNat 0)),(.int 2 (.ofNat 0)),(.int 3 (.ofNat 0)),(.int 1 (.ofNat 0)),(.int 1 (.ofNat 0)),(.int 1 (.ofNat 0)),(.int 1 (.ofNat 0)),(.int 1 (.ofNat 0)),(.int 1 (.ofNat 0)),(.int 1 (.ofNat 0)),.nilS,(.int 1 (.ofNat 0)),(.str []),(.int 1 (.ofNat 0)),(.int 3 (.ofNat 0)),.nilS,(.int 1 (.ofNat 0)),(.int 2 (.ofNat 0)),(.bool false),.nilS,.nilS,.nilS] [(0,1),(1,1),(3,1)] [(.t 5),(.t 9),(.t 15)]),bm 12 (.st 31 (.t 4) (.t 16))]) .ret))
theorem agk:aN 91 agl:=⟨by kernel_rfl,by kernel_rfl⟩
def agj:XF:=.mk 49 (.two 6 7) (.seq (g_ 3 [e_ 0 4 (.box 52 (.t 1)),p_ 1 6 (.mv (i_ 0)),p_ 2 7 (.mv (.c .nilS))]) (.seq (.seq (h_ 12 [p_ 0 10 (m_ 0),c_ 1 11 65 [.t 10],p_ 2 12 (.un 0 (.t 11)),p_ 3 13 (m_ 12),am 4 14 13 false (m_ 0),am 5 15 13 false (n_ 14),am 6 16 13 false (f_ 0 15),aU 7 17 13 false (.ld true 3 (.t 16)),aU 8 18 13 false (.ld true 2 (.t 4)),da 9 19 13 false 45 [(.t 17),(.t 18)],am 10 20 13 false (.bin 3 0 (.t 19) (i_ 0)),p_ 11 21 (.pick (.t 13) (.c (.bool true)) (.t 20))]) (.cond (.t 21) (.seq (g_ 2 [p_ 0 6 (.mv (i_ 0)),p_ 1 7 (.mv (.c .nilS))]) .ret) .skip)) (.seq (h_ 7 [p_ 0 22 (m_ 0),p_ 1 23 (n_ 22),p_ 2 24 (f_ 9 23),r_ 3 25 (l_ 24),r_ 4 26 (.ld true 2 (.t 4)),r_ 5 27 (.lk 2 (.st [(0,1,false,.int),(1,1,false,.int)]) (o_ 0) false (.t 25) (.t 26)),p_ 6 8 (m_ 27)]) (.seq (g_ 11 [p_ 0 28 (m_ 0),p_ 1 29 (n_ 28),p_ 2 30 (f_ 5 29),r_ 3 31 (l_ 30),p_ 4 32 (k_ 31),p_ 5 33 (m_ 8),p_ 6 34 (.bin 0 1 (.t 32) (.t 33)),p_ 7 35 (m_ 2),p_ 8 36 (.mx true (.t 35) (i_ 0)),p_ 9 37 (.mx false (.t 34) (.t 36)),p_ 10 9 (m_ 37)]) (.seq (g_ 13 [p_ 0 38 (m_ 8),p_ 1 39 (m_ 0),p_ 2 40 (n_ 39),p_ 3 41 (f_ 5 40),r_ 4 42 (l_ 41),p_ 5 43 (m_ 8),p_ 6 44 (m_ 8),p_ 7 45 (m_ 9),p_ 8 46 (.bin 0 0 (.t 44) (.t 45)),r_ 9 47 (.sls 18 (.t 42) (some (.t 43)) (some (.t 46)) none),c_ 10 48 54 [.t 47],p_ 11 6 (m_ 38),p_ 12 7 (m_ 48)]) .ret)))))
theorem agi:aN 92 agj:=⟨by kernel_rfl,by kernel_rfl⟩
def agh:XF:=.mk 49 (.one 2) (.seq (g_ 1 [p_ 0 2 (.mv (.c .nilS))]) (.seq (.seq (h_ 13 [p_ 0 7 (m_ 0),p_ 1 8 (n_ 7),p_ 2 9 (f_ 11 8),r_ 3 10 (l_ 9),p_ 4 11 (m_ 0),p_ 5 12 (n_ 11),p_ 6 13 (f_ 13 12),r_ 7 14 (l_ 13),p_ 12 19 (.mv (i_ 0)),e_ 8 15 (.bsl 43 1 2 [.nilS,.nilS] [(0,1),(1,1)] [(.t 10),(.t 14)]),c_ 9 16 125 [.t 15],e_ 10 17 (.bsl 43 1 2 [.nilS,.nilS] [(0,1),(1,1)] [(.t 16),(.c .nilS)]),p_ 11 18 (k_ 17)]) (.block 2 (.loop [0,2,4,5,6,17,18,19,20,21,22,23,24,25,26,27,28,29,30,31,32,33,34,35,36,37,38,39,40,41,42,43,44,45,46,47,48] (.seq (g_ 1 [p_ 0 20 (.bin 3 0 (.t 19) (.t 18))]) (.seq (.cond (.t 20) .skip (.exit 2)) (.seq (.block 3 (.seq (g_ 3 [p_ 0 21 (.ixs 1 (.t 17) (.t 19)),r_ 1 22 (l_ 21),p_ 2 4 (m_ 22)]) (.seq (.reg true 17 (.split 10 14 (.leaf [p_ 0 24 (m_ 0),p_ 1 25 (n_ 24),p_ 2 26 (f_ 0 25),p_ 3 27 (f_ 0 26),r_ 4 28 (.ld true 3 (.t 27)),p_ 5 29 (m_ 4),p_ 6 30 (m_ 0),p_ 7 31 (n_ 30),p_ 8 32 (f_ 12 31),r_ 9 33 (l_ 32),c_ 10 34 126 [(.t 28),(.t 29),(.t 33)],p_ 11 23 (m_ 34),p_ 12 35 (.ext 0 (.t 23)),p_ 13 36 (.ext 1 (.t 23)),e_ 14 5 (.al 45 [(.int 1 (.ofNat 0)),(.int 3 (.ofNat 0)),.nilS]),bm 15 (.st 3 (.t 5) (.t 35)),p_ 16 6 (m_ 36)]) (.leaf [p_ 0 24 (m_ 0),p_ 1 25 (n_ 24),p_ 2 26 (f_ 0 25),p_ 3 27 (f_ 0 26),r_ 4 28 (.ld true 3 (.t 27)),p_ 5 29 (m_ 4),p_ 6 30 (m_ 0),p_ 7 31 (n_ 30),p_ 8 32 (f_ 12 31),r_ 9 33 (l_ 32),e_ 14 5 (.al 45 [(.int 1 (.ofNat 0)),(.int 3 (.ofNat 0)),.nilS]),a_ 4 28 (.ld true 3 (.t 27)),a_ 9 33 (l_ 32),c_ 10 34 126 [(.t 28),(.t 29),(.t 33)],p_ 11 23 (m_ 34),p_ 12 35 (.ext 0 (.t 23)),p_ 13 36 (.ext 1 (.t 23)),bm 15 (.st 3 (.t 5) (.t 35)),p_ 16 6 (m_ 36)]))) (.seq (g_ 2 [p_ 0 37 (m_ 6),p_ 1 38 (.bin 3 4 (.t 37) (i_ 0))]) (.cond (.t 38) (.seq (g_ 3 [p_ 0 39 (f_ 2 5),r_ 1 40 (l_ 39),p_ 2 2 (m_ 40)]) .ret) .skip))))) (g_ 2 [p_ 0 41 (.bin 0 0 (.t 19) (i_ 1)),p_ 1 19 (m_ 41)]))))))) (.seq (g_ 8 [p_ 0 42 (m_ 0),p_ 1 43 (n_ 42),p_ 2 44 (f_ 0 43),p_ 3 45 (f_ 0 44),p_ 4 46 (f_ 2 45),r_ 5 47 (l_ 46),c_ 6 48 48 [.t 47],p_ 7 2 (m_ 48)]) .ret)))
theorem agf:aN 98 agh:=⟨by kernel_rfl,by kernel_rfl⟩
def ac2:XF:=.mk 10 (.one 2) (.seq (g_ 1 [p_ 0 2 (.mv (i_ 0))]) (.seq (.seq (g_ 2 [p_ 0 3 (m_ 0),c_ 1 4 53 [.t 3]]) (.cond (.t 4) (.seq (g_ 1 [p_ 0 2 (.mv (i_ 0))]) .ret) .skip)) (.seq (g_ 6 [p_ 0 5 (m_ 0),p_ 1 6 (n_ 5),p_ 2 7 (f_ 5 6),r_ 3 8 (l_ 7),p_ 4 9 (k_ 8),p_ 5 2 (m_ 9)]) .ret)))
theorem aeg:aN 110 ac2:=⟨by kernel_rfl,by kernel_rfl⟩
def ac1:XF:=.mk 9 (.one 2) (.seq (g_ 1 [p_ 0 2 (.mv (i_ 0))]) (.seq (.seq (g_ 2 [p_ 0 3 (m_ 0),c_ 1 4 53 [.t 3]]) (.cond (.t 4) (.seq (g_ 1 [p_ 0 2 (.mv (i_ 0))]) .ret) .skip)) (.seq (g_ 5 [p_ 0 5 (m_ 0),p_ 1 6 (n_ 5),p_ 2 7 (f_ 6 6),r_ 3 8 (l_ 7),p_ 4 2 (m_ 8)]) .ret)))
theorem aef:aN 111 ac1:=⟨by kernel_rfl,by kernel_rfl⟩
def ac0:XF:=.mk 19 (.one 4) (.seq (g_ 1 [p_ 0 4 (.mv (i_ 0))]) (.seq (.seq (g_ 3 [p_ 0 6 (m_ 0),p_ 1 7 (k_ 6),p_ 2 8 (.mv (i_ 0))]) (.block 2 (.loop [0,1,4,5,7,8,9,10,11,12,13,14,15,16,17,18] (.seq (g_ 1 [p_ 0 9 (.bin 3 0 (.t 8) (.t 7))]) (.seq (.cond (.t 9) .skip (.exit 2)) (.seq (.block 3 (.seq (g_ 2 [p_ 0 10 (m_ 8),p_ 1 5 (m_ 10)]) (.seq (g_ 6 [p_ 0 11 (m_ 1),p_ 1 12 (m_ 0),p_ 2 13 (m_ 5),p_ 3 14 (.ixs 2 (.t 12) (.t 13)),r_ 4 15 (.ld true 2 (.t 14)),.k 5 (some 16) none 11 [81] [.t 15]]) (.cond (.t 16) (.seq (g_ 2 [p_ 0 17 (m_ 5),p_ 1 4 (m_ 17)]) .ret) .skip)))) (g_ 2 [p_ 0 18 (.bin 0 0 (.t 8) (i_ 1)),p_ 1 8 (m_ 18)]))))))) (.seq (g_ 1 [p_ 0 4 (.mv (.c (.int 0 (.negSucc 0))))]) .ret)))
theorem aee:aN 112 ac0:=⟨by kernel_rfl,by kernel_rfl⟩
def acZ:XF:=.mk 6 (.one 2) (.seq (g_ 1 [p_ 0 2 (.mv (.c (.int 3 (.ofNat 0))))]) (.seq (g_ 4 [p_ 0 3 (m_ 0),p_ 1 4 (.bin 2 1 (.t 3) (.c (.int 4 (.ofNat 8)))),p_ 2 5 (.cnv 3 (.t 4)),p_ 3 2 (m_ 5)]) .ret))
theorem aed:aN 114 acZ:=⟨by kernel_rfl,by kernel_rfl⟩
def acY:XF:=.mk 134 .none (.seq (g_ 1 [p_ 0 8 (.mv (.c (.bool true)))]) (.seq (g_ 1 [p_ 0 9 (.mv (.c (.bool true)))]) (.block 2 (.loop [0,1,2,3,8,9,10,11,12,13,14,15,16,17,18,19,20,21,22,23,24,25,26,28,29,30,31,32,34,35,36,37,38,40,41,42,43,44,45,46,47,48,49,50,51,52,53,55,56,57,58,59,60,61,62,63,64,65,66,67,68,69,70,71,72,73,74,75,76,77,78,79,80,81,82,83,84,85,86,87,88,89,90,91,92,93,94,95,96,97,98,99,100,101,102,103,104,105,106,107,108,109,110,111,112,113,114,115,116,117,118,119,120,122,123,124,125,126,127,128,129,130,131,133] (.block 3 (.seq (g_ 4 [p_ 0 19 (m_ 2),p_ 1 20 (m_ 1),p_ 2 21 (.bin 0 1 (.t 19) (.t 20)),p_ 3 10 (m_ 21)]) (.seq (.seq (g_ 2 [p_ 0 22 (m_ 10),p_ 1 23 (.bin 3 1 (.t 22) (i_ 12))]) (.cond (.t 23) (.seq (g_ 4 [p_ 0 24 (m_ 0),p_ 1 25 (m_ 1),p_ 2 26 (m_ 2),c_ 3 27 145 [(.t 24),(.t 25),(.t 26)]]) .ret) .skip)) (.seq (.seq (g_ 2 [p_ 0 28 (m_ 3),p_ 1 29 (.bin 3 4 (.t 28) (i_ 0))]) (.cond (.t 29) (.seq (g_ 4 [p_ 0 30 (m_ 0),p_ 1 31 (m_ 1),p_ 2 32 (m_ 2),c_ 3 33 146 [(.t 30),(.t 31),(.t 32)]]) .ret) .skip)) (.seq (.seq (g_ 2 [p_ 0 34 (m_ 8),p_ 1 35 (.un 0 (.t 34))]) (.cond (.t 35) (.seq (g_ 4 [p_ 0 36 (m_ 0),p_ 1 37 (m_ 1),p_ 2 38 (m_ 2),c_ 3 39 147 [(.t 36),(.t 37),(.t 38)]]) (g_ 3 [p_ 0 40 (m_ 3),p_ 1 41 (.bin 0 1 (.t 40) (i_ 1)),p_ 2 3 (m_ 41)])) .skip)) (.seq (g_ 9 [p_ 0 43 (m_ 0),p_ 1 44 (m_ 1),p_ 2 45 (m_ 2),c_ 3 46 148 [(.t 43),(.t 44),(.t 45)],p_ 4 42 (m_ 46),p_ 5 47 (.ext 0 (.t 42)),p_ 6 48 (.ext 1 (.t 42)),p_ 7 11 (m_ 47),p_ 8 12 (m_ 48)]) (.seq (.seq (g_ 2 [p_ 0 49 (m_ 12),p_ 1 50 (.bin 3 4 (.t 49) (i_ 2))]) (.cond (.t 50) (.seq (g_ 4 [p_ 0 51 (m_ 0),p_ 1 52 (m_ 1),p_ 2 53 (m_ 2),c_ 3 54 149 [(.t 51),(.t 52),(.t 53)]]) (.seq (g_ 7 [p_ 0 55 (m_ 2),p_ 1 56 (.bin 0 1 (.t 55) (i_ 1)),p_ 2 57 (m_ 11),p_ 3 58 (m_ 1),p_ 4 59 (.bin 0 1 (.t 57) (.t 58)),p_ 5 60 (.bin 0 1 (.t 56) (.t 59)),p_ 6 11 (m_ 60)]) (g_ 1 [p_ 0 12 (.mv (i_ 1))]))) .skip)) (.seq (.seq (g_ 8 [p_ 0 61 (m_ 8),p_ 1 62 (m_ 61),am 2 63 62 true (m_ 9),p_ 3 64 (.pick (.t 62) (.t 63) (.c (.bool false))),p_ 4 65 (m_ 64),am 5 66 65 true (m_ 12),am 6 67 65 true (.bin 3 4 (.t 66) (i_ 1)),p_ 7 68 (.pick (.t 65) (.t 67) (.c (.bool false)))]) (.cond (.t 68) (.seq (g_ 4 [p_ 0 69 (m_ 0),p_ 1 70 (m_ 1),p_ 2 71 (m_ 2),c_ 3 72 150 [(.t 69),(.t 70),(.t 71)]]) (.cond (.t 72) .ret .skip)) .skip)) (.seq (.seq (h_ 15 [p_ 0 73 (m_ 1),p_ 1 74 (.bin 3 2 (.t 73) (i_ 0)),p_ 2 75 (m_ 74),am 3 76 75 true (m_ 0),am 4 77 75 true (m_ 1),am 5 78 75 true (.bin 0 1 (.t 77) (i_ 1)),am 6 79 75 true (.ixs 1 (.t 76) (.t 78)),aU 7 80 75 true (l_ 79),am 8 81 75 true (m_ 0),am 9 82 75 true (m_ 11),am 10 83 75 true (.ixs 1 (.t 81) (.t 82)),aU 11 84 75 true (l_ 83),da 12 85 75 true 151 [(.t 80),(.t 84)],am 13 86 75 true (.un 0 (.t 85)),p_ 14 87 (.pick (.t 75) (.t 86) (.c (.bool false)))]) (.cond (.t 87) (.seq (g_ 6 [p_ 0 88 (m_ 0),p_ 1 89 (m_ 1),p_ 2 90 (m_ 2),p_ 3 91 (m_ 11),c_ 4 92 152 [(.t 88),(.t 89),(.t 90),(.t 91)],p_ 5 13 (m_ 92)]) (.seq (g_ 2 [p_ 0 93 (m_ 13),p_ 1 1 (m_ 93)]) (.exit 3))) .skip)) (.seq (g_ 10 [p_ 0 95 (m_ 0),p_ 1 96 (m_ 1),p_ 2 97 (m_ 2),p_ 3 98 (m_ 11),c_ 4 99 153 [(.t 95),(.t 96),(.t 97),(.t 98)],p_ 5 94 (m_ 99),p_ 6 100 (.ext 0 (.t 94)),p_ 7 101 (.ext 1 (.t 94)),p_ 8 14 (m_ 100),p_ 9 15 (m_ 101)]) (.seq (g_ 2 [p_ 0 102 (m_ 15),p_ 1 9 (m_ 102)]) (.seq (g_ 8 [p_ 0 103 (m_ 14),p_ 1 104 (m_ 1),p_ 2 105 (.bin 0 1 (.t 103) (.t 104)),p_ 3 106 (m_ 2),p_ 4 107 (m_ 14),p_ 5 108 (.bin 0 1 (.t 106) (.t 107)),p_ 6 16 (m_ 105),p_ 7 17 (m_ 108)]) (.seq (g_ 3 [p_ 0 109 (m_ 10),p_ 1 110 (.bin 0 3 (.t 109) (i_ 8)),p_ 2 18 (m_ 110)]) (.seq (g_ 3 [p_ 0 111 (m_ 16),p_ 1 112 (m_ 17),p_ 2 113 (.bin 3 0 (.t 111) (.t 112))]) (.cond (.t 113) (.seq (g_ 4 [p_ 0 114 (m_ 16),p_ 1 115 (m_ 18),p_ 2 116 (.bin 3 3 (.t 114) (.t 115)),p_ 3 8 (m_ 116)]) (.seq (g_ 5 [p_ 0 117 (m_ 0),p_ 1 118 (m_ 1),p_ 2 119 (m_ 14),p_ 3 120 (m_ 3),c_ 4 121 120 [(.t 117),(.t 118),(.t 119),(.t 120)]]) (g_ 3 [p_ 0 122 (m_ 14),p_ 1 123 (.bin 0 0 (.t 122) (i_ 1)),p_ 2 1 (m_ 123)]))) (.seq (g_ 4 [p_ 0 124 (m_ 17),p_ 1 125 (m_ 18),p_ 2 126 (.bin 3 3 (.t 124) (.t 125)),p_ 3 8 (m_ 126)]) (.seq (g_ 6 [p_ 0 127 (m_ 0),p_ 1 128 (m_ 14),p_ 2 129 (.bin 0 0 (.t 128) (i_ 1)),p_ 3 130 (m_ 2),p_ 4 131 (m_ 3),c_ 5 132 120 [(.t 127),(.t 129),(.t 130),(.t 131)]]) (g_ 2 [p_ 0 133 (m_ 14),p_ 1 2 (m_ 133)]))))))))))))))))))))))
theorem aec:aN 120 acY:=⟨by kernel_rfl,by kernel_rfl⟩
def acX:XF:=.mk 8 (.one 2) (.seq (g_ 1 [p_ 0 2 (.mv (i_ 0))]) (.seq (.cond (.c (.bool false)) (.seq (g_ 4 [p_ 0 3 (m_ 0),p_ 1 4 (.cnv 3 (.t 3)),c_ 2 5 154 [.t 4],p_ 3 2 (m_ 5)]) .ret) .skip) (.seq (g_ 3 [p_ 0 6 (m_ 0),c_ 1 7 155 [.t 6],p_ 2 2 (m_ 7)]) .ret)))
theorem aeb:aN 121 acX:=⟨by kernel_rfl,by kernel_rfl⟩
def acW:XF:=.mk 36 (.one 2) (.seq (g_ 1 [p_ 0 2 (.mv (.c .nilS))]) (.seq (g_ 1 [p_ 0 3 (.mv (i_ 0))]) (.seq (.seq (g_ 3 [p_ 0 9 (m_ 0),p_ 1 10 (k_ 9),p_ 2 11 (.mv (i_ 0))]) (.block 2 (.loop [0,2,3,5,6,8,9,10,11,12,13,14,15,16,17,18,19,20,21,22,23,24,25,26,27,28,29,30,31,32,33,34,35] (.seq (g_ 1 [p_ 0 12 (.bin 3 0 (.t 11) (.t 10))]) (.seq (.cond (.t 12) .skip (.exit 2)) (.seq (.block 3 (.seq (g_ 3 [p_ 0 13 (.ixs 1 (.t 9) (.t 11)),r_ 1 14 (l_ 13),p_ 2 5 (m_ 14)]) (.seq (g_ 5 [p_ 0 15 (m_ 3),p_ 1 16 (m_ 5),p_ 2 17 (k_ 16),p_ 3 18 (.bin 0 0 (.t 15) (.t 17)),p_ 4 3 (m_ 18)]) (.seq (g_ 2 [p_ 0 19 (m_ 3),p_ 1 20 (.bin 3 0 (.t 19) (i_ 0))]) (.cond (.t 20) (g_ 2 [p_ 0 21 .bad,.p 1 none none .bad]) .skip))))) (g_ 2 [p_ 0 22 (.bin 0 0 (.t 11) (i_ 1)),p_ 1 11 (m_ 22)]))))))) (.seq (g_ 3 [p_ 0 23 (m_ 3),c_ 1 24 156 [(.c .nilS),(.t 23)],p_ 2 6 (m_ 24)]) (.seq (.seq (g_ 3 [p_ 0 25 (m_ 0),p_ 1 26 (k_ 25),p_ 2 27 (.mv (i_ 0))]) (.block 4 (.loop [2,6,8,25,26,27,28,29,30,31,32,33,34,35] (.seq (g_ 1 [p_ 0 28 (.bin 3 0 (.t 27) (.t 26))]) (.seq (.cond (.t 28) .skip (.exit 4)) (.seq (.block 5 (.seq (g_ 3 [p_ 0 29 (.ixs 1 (.t 25) (.t 27)),r_ 1 30 (l_ 29),p_ 2 8 (m_ 30)]) (g_ 4 [p_ 0 31 (m_ 6),p_ 1 32 (m_ 8),e_ 2 33 (.app 52 2 4 (.t 31) (.t 32)),p_ 3 6 (m_ 33)]))) (g_ 2 [p_ 0 34 (.bin 0 0 (.t 27) (i_ 1)),p_ 1 27 (m_ 34)]))))))) (.seq (g_ 2 [p_ 0 35 (m_ 6),p_ 1 2 (m_ 35)]) .ret))))))
theorem aea:aN 125 acW:=⟨by kernel_rfl,by kernel_rfl⟩
def acV:XF:=.mk 56 (.ct 6 true 3 7) (.seq (g_ 3 [e_ 0 3 (.box 45 (.t 0)),e_ 1 6 (.al 45 [(.int 1 (.ofNat 0)),(.int 3 (.ofNat 0)),.nilS]),p_ 2 7 (.mv (i_ 0))]) (.seq (.block 2 (.seq (g_ 4 [r_ 0 13 (.ld true 3 (.t 3)),c_ 1 14 58 [.t 13],p_ 2 15 (.un 0 (.t 14)),p_ 3 12 (m_ 15)]) (.cond (.t 12) (.seq (g_ 3 [p_ 0 16 (.bld [(.int 1 (.ofNat 0)),(.int 3 (.ofNat 0)),.nilS] [] []),bm 1 (.st 3 (.t 6) (.t 16)),p_ 2 7 (.mv (i_ 1))]) .ret) (.seq (g_ 4 [p_ 0 18 (f_ 1 3),r_ 1 19 (l_ 18),p_ 2 20 (.bin 3 4 (.t 19) (.c (.int 3 (.ofNat 4294967295)))),p_ 3 17 (m_ 20)]) (.cond (.t 17) (.seq (g_ 3 [p_ 0 21 (.bld [(.int 1 (.ofNat 0)),(.int 3 (.ofNat 0)),.nilS] [] []),bm 1 (.st 3 (.t 6) (.t 21)),p_ 2 7 (.mv (i_ 2))]) .ret) .skip))))) (.seq (g_ 4 [p_ 0 22 (m_ 1),c_ 1 23 157 [.t 22],e_ 2 8 (.al 113 [.nilF]),bm 3 (.st 1 (.t 8) (.t 23))]) (.seq (g_ 5 [r_ 0 24 (.ld true 3 (.t 3)),p_ 1 25 (.mkf 160 [.t 8]),c_ 2 26 159 [(.t 24),(.t 25)],c_ 3 27 158 [.t 26],p_ 4 9 (m_ 27)]) (.seq (.seq (g_ 3 [p_ 0 28 (m_ 2),p_ 1 29 (k_ 28),p_ 2 30 (.mv (i_ 0))]) (.block 3 (.loop [3,6,7,9,11,28,29,30,31,32,33,34,35,36,37,38,39,40,41,42,43,44,45,46,47,48,49,50,51,52,53,54,55] (.seq (g_ 1 [p_ 0 31 (.bin 3 0 (.t 30) (.t 29))]) (.seq (.cond (.t 31) .skip (.exit 3)) (.seq (.block 4 (.seq (g_ 4 [p_ 0 32 (.ixs 2 (.t 28) (.t 30)),r_ 1 33 (.ld true 2 (.t 32)),e_ 2 11 (.al 52 [(.int 1 (.ofNat 0)),(.int 2 (.ofNat 0))]),bm 3 (.st 2 (.t 11) (.t 33))]) (g_ 4 [p_ 0 34 (m_ 9),r_ 1 35 (.ld true 2 (.t 11)),c_ 2 36 161 [(.t 34),(.t 35)],p_ 3 9 (m_ 36)]))) (g_ 2 [p_ 0 37 (.bin 0 0 (.t 30) (i_ 1)),p_ 1 30 (m_ 37)]))))))) (.seq (.block 5 (.seq (g_ 5 [r_ 0 39 (.ld true 3 (.t 3)),p_ 1 40 (m_ 9),c_ 2 41 162 [(.t 39),(.t 40)],p_ 3 42 (.un 0 (.t 41)),p_ 4 38 (m_ 42)]) (.cond (.t 38) (.seq (g_ 3 [p_ 0 43 (.bld [(.int 1 (.ofNat 0)),(.int 3 (.ofNat 0)),.nilS] [] []),bm 1 (.st 3 (.t 6) (.t 43)),p_ 2 7 (.mv (i_ 17))]) .ret) (.seq (g_ 4 [p_ 0 45 (m_ 9),p_ 1 46 (k_ 45),p_ 2 47 (.bin 3 2 (.t 46) (i_ 8)),p_ 3 44 (m_ 47)]) (.cond (.t 44) (.seq (g_ 3 [p_ 0 48 (.bld [(.int 1 (.ofNat 0)),(.int 3 (.ofNat 0)),.nilS] [] []),bm 1 (.st 3 (.t 6) (.t 48)),p_ 2 7 (.mv (i_ 11))]) .ret) .skip))))) (.seq (g_ 9 [p_ 0 49 (f_ 0 3),r_ 1 50 (l_ 49),p_ 2 51 (f_ 1 3),r_ 3 52 (l_ 51),p_ 4 53 (.bin 0 0 (.t 52) (.c (.int 3 (.ofNat 1)))),p_ 5 54 (m_ 9),p_ 6 55 (.bld [(.int 1 (.ofNat 0)),(.int 3 (.ofNat 0)),.nilS] [(0,1),(1,1),(2,1)] [(.t 50),(.t 53),(.t 54)]),bm 7 (.st 3 (.t 6) (.t 55)),p_ 8 7 (.mv (i_ 0))]) .ret)))))))
theorem ad9:aN 126 acV:=⟨by kernel_rfl,by kernel_rfl⟩
def acU:XF:=.mk 136 (.one 2) (.seq (g_ 2 [e_ 0 1 (.box 74 (.t 0)),p_ 1 2 (.mv (.c (.bool false)))]) (.seq (g_ 9 [p_ 0 4 (f_ 3 1),r_ 1 5 (l_ 4),p_ 2 6 (.bin 3 2 (.t 5) (.c (.int 3 (.ofNat 0)))),p_ 3 7 (m_ 6),am 4 8 7 true (f_ 7 1),aU 5 9 7 true (l_ 8),am 6 10 7 true (.bin 3 2 (.t 9) (.c (.int 4 (.ofNat 0)))),p_ 7 11 (.pick (.t 7) (.t 10) (.c (.bool false))),p_ 8 3 (m_ 11)]) (.seq (.seq (g_ 2 [p_ 0 12 (f_ 0 1),r_ 1 13 (l_ 12)]) (.block 2 (.seq (g_ 2 [p_ 0 15 (.bin 3 4 (.t 13) (.c (.int 1 (.ofNat 0)))),p_ 1 14 (m_ 15)]) (.cond (.t 14) (.seq (g_ 3 [r_ 0 16 (.ld true 31 (.t 1)),c_ 1 17 165 [.t 16],p_ 2 2 (m_ 17)]) .ret) (.seq (g_ 2 [p_ 0 19 (.bin 3 4 (.t 13) (.c (.int 1 (.ofNat 1)))),p_ 1 18 (m_ 19)]) (.cond (.t 18) (.seq (g_ 14 [p_ 0 20 (f_ 9 1),r_ 1 21 (.ld true 10 (.t 20)),c_ 2 22 85 [.t 21],p_ 3 23 (m_ 22),am 4 24 23 true (f_ 20 1),aU 5 25 23 true (.ld true 2 (.t 24)),da 6 26 23 true 83 [.t 25],p_ 7 27 (.pick (.t 23) (.t 26) (.c (.bool false))),p_ 8 28 (m_ 27),am 9 29 28 true (f_ 22 1),aU 10 30 28 true (.ld true 3 (.t 29)),da 11 31 28 true 58 [.t 30],p_ 12 32 (.pick (.t 28) (.t 31) (.c (.bool false))),p_ 13 2 (m_ 32)]) .ret) (.seq (g_ 2 [p_ 0 34 (.bin 3 4 (.t 13) (.c (.int 1 (.ofNat 2)))),p_ 1 33 (m_ 34)]) (.cond (.t 33) (.seq (g_ 4 [p_ 0 35 (f_ 9 1),r_ 1 36 (.ld true 10 (.t 35)),c_ 2 37 85 [.t 36],p_ 3 2 (m_ 37)]) .ret) (.seq (g_ 2 [p_ 0 39 (.bin 3 4 (.t 13) (.c (.int 1 (.ofNat 3)))),p_ 1 38 (m_ 39)]) (.cond (.t 38) (.seq (g_ 31 [p_ 0 40 (f_ 3 1),r_ 1 41 (l_ 40),p_ 2 42 (.bin 3 2 (.t 41) (.c (.int 3 (.ofNat 0)))),p_ 3 43 (m_ 42),am 4 44 43 true (f_ 4 1),aU 5 45 43 true (l_ 44),am 6 46 43 true (.bin 3 1 (.t 45) (.c (.int 3 (.ofNat 400)))),p_ 7 47 (.pick (.t 43) (.t 46) (.c (.bool false))),p_ 8 48 (m_ 47),am 9 49 48 true (f_ 5 1),aU 10 50 48 true (l_ 49),am 11 51 48 true (.bin 3 1 (.t 50) (.c (.int 3 (.ofNat 400)))),p_ 12 52 (.pick (.t 48) (.t 51) (.c (.bool false))),p_ 13 53 (m_ 52),am 14 54 53 true (f_ 4 1),aU 15 55 53 true (l_ 54),am 16 56 53 true (.cnv 0 (.t 55)),am 17 57 53 true (f_ 29 1),aU 18 58 53 true (l_ 57),am 19 59 53 true (k_ 58),am 20 60 53 true (.bin 0 0 (.t 56) (.t 59)),am 21 61 53 true (.bin 3 1 (.t 60) (i_ 400)),p_ 22 62 (.pick (.t 53) (.t 61) (.c (.bool false))),p_ 23 63 (m_ 62),am 24 64 63 true (f_ 29 1),aU 25 65 63 true (l_ 64),am 26 66 63 true (f_ 1 1),aU 27 67 63 true (l_ 66),da 28 68 63 true 166 [(.t 65),(.t 67)],p_ 29 69 (.pick (.t 63) (.t 68) (.c (.bool false))),p_ 30 2 (m_ 69)]) .ret) (.seq (g_ 2 [p_ 0 71 (.bin 3 4 (.t 13) (.c (.int 1 (.ofNat 4)))),p_ 1 70 (m_ 71)]) (.cond (.t 70) (.seq (g_ 9 [p_ 0 72 (f_ 3 1),r_ 1 73 (l_ 72),p_ 2 74 (.bin 3 2 (.t 73) (.c (.int 3 (.ofNat 0)))),p_ 3 75 (m_ 74),am 4 76 75 true (f_ 4 1),aU 5 77 75 true (l_ 76),am 6 78 75 true (.bin 3 1 (.t 77) (.c (.int 3 (.ofNat 400)))),p_ 7 79 (.pick (.t 75) (.t 78) (.c (.bool false))),p_ 8 2 (m_ 79)]) .ret) (.seq (.seq (g_ 2 [p_ 0 81 (.bin 3 4 (.t 13) (.c (.int 1 (.ofNat 5)))),p_ 1 80 (m_ 81)]) (.cond (.t 80) .skip (.seq (g_ 2 [p_ 0 82 (.bin 3 4 (.t 13) (.c (.int 1 (.ofNat 6)))),p_ 1 80 (m_ 82)]) (.cond (.t 80) .skip (g_ 2 [p_ 0 83 (.bin 3 4 (.t 13) (.c (.int 1 (.ofNat 7)))),p_ 1 80 (m_ 83)]))))) (.cond (.t 80) (.seq (g_ 2 [p_ 0 84 (m_ 3),p_ 1 2 (m_ 84)]) .ret) (.seq (g_ 2 [p_ 0 86 (.bin 3 4 (.t 13) (.c (.int 1 (.ofNat 8)))),p_ 1 85 (m_ 86)]) (.cond (.t 85) (.seq (g_ 23 [p_ 0 87 (m_ 3),p_ 1 88 (m_ 87),am 2 89 88 true (f_ 29 1),aU 3 90 88 true (l_ 89),am 4 91 88 true (f_ 1 1),aU 5 92 88 true (l_ 91),da 6 93 88 true 166 [(.t 90),(.t 92)],p_ 7 94 (.pick (.t 88) (.t 93) (.c (.bool false))),p_ 8 95 (m_ 94),am 9 96 95 true (f_ 27 1),aU 10 97 95 true (l_ 96),am 11 98 95 true (.un 0 (.t 97)),am 12 99 95 true (m_ 98),am 13 100 99 false (f_ 8 1),aU 14 101 99 false (l_ 100),am 15 102 99 false (.bin 3 2 (.t 101) (.c (.int 4 (.ofNat 0)))),am 16 103 99 false (m_ 102),aU 17 104 103 true (.ld true 31 (.t 1)),da 18 105 103 true 167 [.t 104],am 19 106 99 false (.pick (.t 103) (.t 105) (.c (.bool false))),am 20 107 95 true (.pick (.t 99) (.c (.bool true)) (.t 106)),p_ 21 108 (.pick (.t 95) (.t 107) (.c (.bool false))),p_ 22 2 (m_ 108)]) .ret) (.seq (g_ 2 [p_ 0 110 (.bin 3 4 (.t 13) (.c (.int 1 (.ofNat 9)))),p_ 1 109 (m_ 110)]) (.cond (.t 109) (.seq (g_ 6 [p_ 0 111 (m_ 3),p_ 1 112 (m_ 111),aU 2 113 112 true (.ld true 31 (.t 1)),da 3 114 112 true 167 [.t 113],p_ 4 115 (.pick (.t 112) (.t 114) (.c (.bool false))),p_ 5 2 (m_ 115)]) .ret) (.seq (g_ 2 [p_ 0 117 (.bin 3 4 (.t 13) (.c (.int 1 (.ofNat 10)))),p_ 1 116 (m_ 117)]) (.cond (.t 116) (.seq (g_ 12 [p_ 0 118 (f_ 22 1),r_ 1 119 (.ld true 3 (.t 118)),c_ 2 120 58 [.t 119],p_ 3 121 (m_ 120),am 4 122 121 true (f_ 29 1),aU 5 123 121 true (l_ 122),am 6 124 121 true (f_ 22 1),am 7 125 121 true (f_ 0 124),aU 8 126 121 true (l_ 125),da 9 127 121 true 166 [(.t 123),(.t 126)],p_ 10 128 (.pick (.t 121) (.t 127) (.c (.bool false))),p_ 11 2 (m_ 128)]) .ret) (.seq (.seq (g_ 2 [p_ 0 130 (.bin 3 4 (.t 13) (.c (.int 1 (.ofNat 11)))),p_ 1 129 (m_ 130)]) (.cond (.t 129) .skip (.seq (g_ 2 [p_ 0 131 (.bin 3 4 (.t 13) (.c (.int 1 (.ofNat 12)))),p_ 1 129 (m_ 131)]) (.cond (.t 129) .skip (g_ 2 [p_ 0 132 (.bin 3 4 (.t 13) (.c (.int 1 (.ofNat 13)))),p_ 1 129 (m_ 132)]))))) (.cond (.t 129) (.seq (g_ 4 [p_ 0 133 (f_ 25 1),r_ 1 134 (.ld true 2 (.t 133)),c_ 2 135 44 [.t 134],p_ 3 2 (m_ 135)]) .ret) .skip)))))))))))))))))))))) (.seq (g_ 1 [p_ 0 2 (.mv (.c (.bool false)))]) .ret))))
theorem ad8:aN 136 acU:=⟨by kernel_rfl,by kernel_rfl⟩
def acT:XF:=.mk 133 (.one 4) (.seq (g_ 3 [e_ 0 2 (.box 74 (.t 0)),e_ 1 3 (.box 74 (.t 1)),p_ 2 4 (.mv (.c (.bool false)))]) (.seq (g_ 34 [p_ 0 7 (f_ 19 2),r_ 1 8 (l_ 7),p_ 2 9 (f_ 19 3),r_ 3 10 (l_ 9),c_ 4 11 55 [(.t 8),(.t 10)],p_ 5 12 (m_ 11),am 6 13 12 true (f_ 22 2),aU 7 14 12 true (.ld true 3 (.t 13)),am 8 15 12 true (f_ 22 3),aU 9 16 12 true (.ld true 3 (.t 15)),da 10 17 12 true 30 [(.t 14),(.t 16)],p_ 11 18 (.pick (.t 12) (.t 17) (.c (.bool false))),p_ 12 19 (m_ 18),am 13 20 19 true (f_ 28 2),aU 14 21 19 true (l_ 20),am 15 22 19 true (f_ 28 3),aU 16 23 19 true (l_ 22),da 17 24 19 true 52 [(.t 21),(.t 23)],p_ 18 25 (.pick (.t 19) (.t 24) (.c (.bool false))),p_ 19 26 (m_ 25),am 20 27 26 true (f_ 29 2),aU 21 28 26 true (l_ 27),am 22 29 26 true (f_ 29 3),aU 23 30 26 true (l_ 29),da 24 31 26 true 14 [(.t 28),(.t 30)],p_ 25 32 (.pick (.t 26) (.t 31) (.c (.bool false))),p_ 26 33 (m_ 32),am 27 34 33 true (f_ 30 2),aU 28 35 33 true (l_ 34),am 29 36 33 true (f_ 30 3),aU 30 37 33 true (l_ 36),da 31 38 33 true 14 [(.t 35),(.t 37)],p_ 32 39 (.pick (.t 33) (.t 38) (.c (.bool false))),p_ 33 5 (m_ 39)]) (.seq (g_ 62 [p_ 0 40 (f_ 0 2),r_ 1 41 (l_ 40),p_ 2 42 (f_ 0 3),r_ 3 43 (l_ 42),p_ 4 44 (.bin 3 4 (.t 41) (.t 43)),p_ 5 45 (m_ 44),am 6 46 45 true (f_ 1 2),aU 7 47 45 true (l_ 46),am 8 48 45 true (f_ 1 3),aU 9 49 45 true (l_ 48),am 10 50 45 true (.bin 3 4 (.t 47) (.t 49)),p_ 11 51 (.pick (.t 45) (.t 50) (.c (.bool false))),p_ 12 52 (m_ 51),am 13 53 52 true (f_ 2 2),aU 14 54 52 true (l_ 53),am 15 55 52 true (f_ 2 3),aU 16 56 52 true (l_ 55),am 17 57 52 true (.bin 3 4 (.t 54) (.t 56)),p_ 18 58 (.pick (.t 52) (.t 57) (.c (.bool false))),p_ 19 59 (m_ 58),am 20 60 59 true (f_ 3 2),aU 21 61 59 true (l_ 60),am 22 62 59 true (f_ 3 3),aU 23 63 59 true (l_ 62),am 24 64 59 true (.bin 3 4 (.t 61) (.t 63)),p_ 25 65 (.pick (.t 59) (.t 64) (.c (.bool false))),p_ 26 66 (m_ 65),am 27 67 66 true (f_ 4 2),aU 28 68 66 true (l_ 67),am 29 69 66 true (f_ 4 3),aU 30 70 66 true (l_ 69),am 31 71 66 true (.bin 3 4 (.t 68) (.t 70)),p_ 32 72 (.pick (.t 66) (.t 71) (.c (.bool false))),p_ 33 73 (m_ 72),am 34 74 73 true (f_ 5 2),aU 35 75 73 true (l_ 74),am 36 76 73 true (f_ 5 3),aU 37 77 73 true (l_ 76),am 38 78 73 true (.bin 3 4 (.t 75) (.t 77)),p_ 39 79 (.pick (.t 73) (.t 78) (.c (.bool false))),p_ 40 80 (m_ 79),am 41 81 80 true (f_ 6 2),aU 42 82 80 true (l_ 81),am 43 83 80 true (f_ 6 3),aU 44 84 80 true (l_ 83),am 45 85 80 true (.bin 3 4 (.t 82) (.t 84)),p_ 46 86 (.pick (.t 80) (.t 85) (.c (.bool false))),p_ 47 87 (m_ 86),am 48 88 87 true (f_ 7 2),aU 49 89 87 true (l_ 88),am 50 90 87 true (f_ 7 3),aU 51 91 87 true (l_ 90),am 52 92 87 true (.bin 3 4 (.t 89) (.t 91)),p_ 53 93 (.pick (.t 87) (.t 92) (.c (.bool false))),p_ 54 94 (m_ 93),am 55 95 94 true (f_ 8 2),aU 56 96 94 true (l_ 95),am 57 97 94 true (f_ 8 3),aU 58 98 94 true (l_ 97),am 59 99 94 true (.bin 3 4 (.t 96) (.t 98)),p_ 60 100 (.pick (.t 94) (.t 99) (.c (.bool false))),p_ 61 6 (m_ 100)]) (.seq (g_ 33 [p_ 0 101 (m_ 5),p_ 1 102 (m_ 101),am 2 103 102 true (m_ 6),p_ 3 104 (.pick (.t 102) (.t 103) (.c (.bool false))),p_ 4 105 (m_ 104),am 5 106 105 true (f_ 9 2),aU 6 107 105 true (.ld true 10 (.t 106)),am 7 108 105 true (f_ 9 3),aU 8 109 105 true (.ld true 10 (.t 108)),am 9 110 105 true (.eqs false 4 (.st [(0,2,true,(.st [(0,1,false,.int),(1,1,false,.int)])),(2,1,false,.int),(3,1,false,.int),(4,6,true,(.ar [0,2,4] 2 true (.st [(0,1,false,.int),(1,1,false,.int)])))]) (.t 107) (.t 109)),p_ 10 111 (.pick (.t 105) (.t 110) (.c (.bool false))),p_ 11 112 (m_ 111),am 12 113 112 true (f_ 20 2),aU 13 114 112 true (.ld true 2 (.t 113)),am 14 115 112 true (f_ 20 3),aU 15 116 112 true (.ld true 2 (.t 115)),am 16 117 112 true (.eqs false 2 (.st [(0,1,false,.int),(1,1,false,.str)]) (.t 114) (.t 116)),p_ 17 118 (.pick (.t 112) (.t 117) (.c (.bool false))),p_ 18 119 (m_ 118),am 19 120 119 true (f_ 25 2),aU 20 121 119 true (.ld true 2 (.t 120)),am 21 122 119 true (f_ 25 3),aU 22 123 119 true (.ld true 2 (.t 122)),am 23 124 119 true (.eqs false 2 (.st [(0,1,false,.int),(1,1,false,.int)]) (.t 121) (.t 123)),p_ 24 125 (.pick (.t 119) (.t 124) (.c (.bool false))),p_ 25 126 (m_ 125),am 26 127 126 true (f_ 27 2),aU 27 128 126 true (l_ 127),am 28 129 126 true (f_ 27 3),aU 29 130 126 true (l_ 129),am 30 131 126 true (.eqs false 1 .bool (.t 128) (.t 130)),p_ 31 132 (.pick (.t 126) (.t 131) (.c (.bool false))),p_ 32 4 (m_ 132)]) .ret))))
theorem ad7:aN 137 acT:=⟨by kernel_rfl,by kernel_rfl⟩
def acS:XF:=.mk 118 (.cell 2 true 31) (.seq (g_ 2 [e_ 0 1 (.box 74 (.t 0)),e_ 1 2 (.al 74 [(.int 1 (.ofNat 0)),(.int 1 (.ofNat 0)),(.int 1 (.ofNat 0)),(.int 3 (.ofNat 0)),(.int 3 (.ofNat 0)),(.int 3 (.ofNat 0)),(.int 3 (.ofNat 0)),(.int 4 (.ofNat 0)),(.int 4 (.ofNat 0)),(.int 1 (.ofNat 0)),(.int 2 (.ofNat 0)),(.int 3 (.ofNat 0)),(.int 1 (.ofNat 0)),(.int 1 (.ofNat 0)),(.int 1 (.ofNat 0)),(.int 1 (.ofNat 0)),(.int 1 (.ofNat 0)),(.int 1 (.ofNat 0)),(.int 1 (.ofNat 0)),.nilS,(.int 1 (.ofNat 0)),(.str []),(.int 1 (.ofNat 0)),(.int 3 (.ofNat 0)),.nilS,(.int 1 (.ofNat 0)),(.int 2 (.ofNat 0)),(.bool false),.nilS,.nilS,.nilS])]) (.seq (g_ 7 [p_ 0 4 (f_ 0 1),r_ 1 5 (l_ 4),p_ 2 6 (f_ 1 1),r_ 3 7 (l_ 6),p_ 4 8 (.bld [(.int 1 (.ofNat 0)),(.int 1 (.ofNat 0)),(.int 1 (.ofNat 0)),(.int 3 (.ofNat 0)),(.int 3 (.ofNat 0)),(.int 3 (.ofNat 0)),(.int 3 (.ofNat 0)),(.int 4 (.ofNat 0)),(.int 4 (.ofNat 0)),(.int 1 (.ofNat 0)),(.int 2 (.ofNat 0)),(.int 3 (.ofNat 0)),(.int 1 (.ofNat 0)),(.int 1 (.ofNat 0)),(.int 1 (.ofNat 0)),(.int 1 (.ofNat 0)),(.int 1 (.ofNat 0)),(.int 1 (.ofNat 0)),(.int 1 (.ofNat 0)),.nilS,(.int 1 (.ofNat 0)),(.str []),(.int 1 (.ofNat 0)),(.int 3 (.ofNat 0)),.nilS,(.int 1 (.ofNat 0)),(.int 2 (.ofNat 0)),(.bool false),.nilS,.nilS,.nilS] [(0,1),(1,1)] [(.t 5),(.t 7)]),e_ 5 3 (.al 74 [(.int 1 (.ofNat 0)),(.int 1 (.ofNat 0)),(.int 1 (.ofNat 0)),(.int 3 (.ofNat 0)),(.int 3 (.ofNat 0)),(.int 3 (.ofNat 0)),(.int 3 (.ofNat 0)),(.int 4 (.ofNat 0)),(.int 4 (.ofNat 0)),(.int 1 (.ofNat 0)),(.int 2 (.ofNat 0)),(.int 3 (.ofNat 0)),(.int 1 (.ofNat 0)),(.int 1 (.ofNat 0)),(.int 1 (.ofNat 0)),(.int 1 (.ofNat 0)),(.int 1 (.ofNat 0)),(.int 1 (.ofNat 0)),(.int 1 (.ofNat 0)),.nilS,(.int 1 (.ofNat 0)),(.str []),(.int 1 (.ofNat 0)),(.int 3 (.ofNat 0)),.nilS,(.int 1 (.ofNat 0)),(.int 2 (.ofNat 0)),(.bool false),.nilS,.nilS,.nilS]),bm 6 (.st 31 (.t 3) (.t 8))]) (.seq (.seq (g_ 2 [p_ 0 9 (f_ 0 1),r_ 1 10 (l_ 9)]) (.block 2 (.seq (.block 12 (.seq (.block 11 (.seq (.block 10 (.seq (.block 9 (.seq (.block 8 (.seq (.block 7 (.seq (.block 6 (.seq (.block 5 (.seq (.block 4 (.seq (.block 3 (.seq (.seq (.seq (g_ 2 [p_ 0 12 (.bin 3 4 (.t 10) (.c (.int 1 (.ofNat 0)))),p_ 1 11 (m_ 12)]) (.cond (.t 11) (.exit 3) .skip)) (.seq (.seq (g_ 2 [p_ 0 14 (.bin 3 4 (.t 10) (.c (.int 1 (.ofNat 1)))),p_ 1 13 (m_ 14)]) (.cond (.t 13) (.exit 4) .skip)) (.seq (.seq (g_ 2 [p_ 0 16 (.bin 3 4 (.t 10) (.c (.int 1 (.ofNat 2)))),p_ 1 15 (m_ 16)]) (.cond (.t 15) (.exit 5) .skip)) (.seq (.seq (g_ 2 [p_ 0 18 (.bin 3 4 (.t 10) (.c (.int 1 (.ofNat 3)))),p_ 1 17 (m_ 18)]) (.cond (.t 17) (.exit 6) .skip)) (.seq (.seq (g_ 2 [p_ 0 20 (.bin 3 4 (.t 10) (.c (.int 1 (.ofNat 4)))),p_ 1 19 (m_ 20)]) (.cond (.t 19) (.exit 7) .skip)) (.seq (.seq (g_ 2 [p_ 0 22 (.bin 3 4 (.t 10) (.c (.int 1 (.ofNat 8)))),p_ 1 21 (m_ 22)]) (.cond (.t 21) (.exit 8) .skip)) (.seq (.seq (g_ 2 [p_ 0 24 (.bin 3 4 (.t 10) (.c (.int 1 (.ofNat 9)))),p_ 1 23 (m_ 24)]) (.cond (.t 23) (.exit 9) .skip)) (.seq (.seq (.seq (g_ 2 [p_ 0 26 (.bin 3 4 (.t 10) (.c (.int 1 (.ofNat 5)))),p_ 1 25 (m_ 26)]) (.cond (.t 25) .skip (.seq (g_ 2 [p_ 0 27 (.bin 3 4 (.t 10) (.c (.int 1 (.ofNat 6)))),p_ 1 25 (m_ 27)]) (.cond (.t 25) .skip (g_ 2 [p_ 0 28 (.bin 3 4 (.t 10) (.c (.int 1 (.ofNat 7)))),p_ 1 25 (m_ 28)]))))) (.cond (.t 25) (.exit 10) .skip)) (.seq (.seq (g_ 2 [p_ 0 30 (.bin 3 4 (.t 10) (.c (.int 1 (.ofNat 10)))),p_ 1 29 (m_ 30)]) (.cond (.t 29) (.exit 11) .skip)) (.seq (.seq (g_ 2 [p_ 0 32 (.bin 3 4 (.t 10) (.c (.int 1 (.ofNat 11)))),p_ 1 31 (m_ 32)]) (.cond (.t 31) .skip (.seq (g_ 2 [p_ 0 33 (.bin 3 4 (.t 10) (.c (.int 1 (.ofNat 12)))),p_ 1 31 (m_ 33)]) (.cond (.t 31) .skip (g_ 2 [p_ 0 34 (.bin 3 4 (.t 10) (.c (.int 1 (.ofNat 13)))),p_ 1 31 (m_ 34)]))))) (.cond (.t 31) (.exit 12) .skip))))))))))) (.exit 2))) (.seq (h_ 12 [p_ 0 35 (f_ 9 1),r_ 1 36 (.ld true 10 (.t 35)),p_ 2 37 (f_ 6 1),r_ 3 38 (l_ 37),p_ 4 39 (f_ 19 1),r_ 5 40 (l_ 39),p_ 6 41 (f_ 9 3),bm 7 (.st 10 (.t 41) (.t 36)),a_ 3 38 (l_ 37),a_ 5 40 (l_ 39),p_ 8 42 (f_ 6 3),bm 9 (.st 1 (.t 42) (.t 38)),a_ 5 40 (l_ 39),p_ 10 43 (f_ 19 3),bm 11 (.st 1 (.t 43) (.t 40))]) (.exit 2)))) (.seq (.seq (g_ 10 [p_ 0 44 (f_ 0 1),r_ 1 45 (l_ 44),p_ 2 46 (f_ 9 1),r_ 3 47 (.ld true 10 (.t 46)),p_ 4 48 (f_ 20 1),r_ 5 49 (.ld true 2 (.t 48)),p_ 6 50 (f_ 22 1),r_ 7 51 (.ld true 3 (.t 50)),p_ 8 52 (.bld [(.int 1 (.ofNat 0)),(.int 1 (.ofNat 0)),(.int 1 (.ofNat 0)),(.int 3 (.ofNat 0)),(.int 3 (.ofNat 0)),(.int 3 (.ofNat 0)),(.int 3 (.ofNat 0)),(.int 4 (.ofNat 0)),(.int 4 (.ofNat 0)),(.int 1 (.ofNat 0)),(.int 2 (.ofNat 0)),(.int 3 (.ofNat 0)),(.int 1 (.ofNat 0)),(.int 1 (.ofNat 0)),(.int 1 (.ofNat 0)),(.int 1 (.ofNat 0)),(.int 1 (.ofNat 0)),(.int 1 (.ofNat 0)),(.int 1 (.ofNat 0)),.nilS,(.int 1 (.ofNat 0)),(.str []),(.int 1 (.ofNat 0)),(.int 3 (.ofNat 0)),.nilS,(.int 1 (.ofNat 0)),(.int 2 (.ofNat 0)),(.bool false),.nilS,.nilS,.nilS] [(0,1),(9,10),(20,2),(22,3)] [(.t 45),(.t 47),(.t 49),(.t 51)]),bm 9 (.st 31 (.t 2) (.t 52))]) .ret) (.exit 2)))) (.seq (.seq (g_ 8 [p_ 0 53 (f_ 0 1),r_ 1 54 (l_ 53),p_ 2 55 (f_ 9 1),r_ 3 56 (.ld true 10 (.t 55)),p_ 4 57 (f_ 2 1),r_ 5 58 (l_ 57),p_ 6 59 (.bld [(.int 1 (.ofNat 0)),(.int 1 (.ofNat 0)),(.int 1 (.ofNat 0)),(.int 3 (.ofNat 0)),(.int 3 (.ofNat 0)),(.int 3 (.ofNat 0)),(.int 3 (.ofNat 0)),(.int 4 (.ofNat 0)),(.int 4 (.ofNat 0)),(.int 1 (.ofNat 0)),(.int 2 (.ofNat 0)),(.int 3 (.ofNat 0)),(.int 1 (.ofNat 0)),(.int 1 (.ofNat 0)),(.int 1 (.ofNat 0)),(.int 1 (.ofNat 0)),(.int 1 (.ofNat 0)),(.int 1 (.ofNat 0)),(.int 1 (.ofNat 0)),.nilS,(.int 1 (.ofNat 0)),(.str []),(.int 1 (.ofNat 0)),(.int 3 (.ofNat 0)),.nilS,(.int 1 (.ofNat 0)),(.int 2 (.ofNat 0)),(.bool false),.nilS,.nilS,.nilS] [(0,1),(9,10),(2,1)] [(.t 54),(.t 56),(.t 58)]),bm 7 (.st 31 (.t 2) (.t 59))]) .ret) (.exit 2)))) (h_ 8 [p_ 0 60 (f_ 5 1),r_ 1 61 (l_ 60),p_ 2 62 (f_ 29 1),r_ 3 63 (l_ 62),p_ 4 64 (f_ 5 3),bm 5 (.st 1 (.t 64) (.t 61)),a_ 3 63 (l_ 62),p_ 6 65 (f_ 29 3),bm 7 (.st 1 (.t 65) (.t 63))]))) (.seq (h_ 8 [p_ 0 66 (f_ 3 1),r_ 1 67 (l_ 66),p_ 2 68 (f_ 4 1),r_ 3 69 (l_ 68),p_ 4 70 (f_ 3 3),bm 5 (.st 1 (.t 70) (.t 67)),a_ 3 69 (l_ 68),p_ 6 71 (f_ 4 3),bm 7 (.st 1 (.t 71) (.t 69))]) (.exit 2)))) (.seq (.seq (h_ 8 [p_ 0 72 (f_ 29 1),r_ 1 73 (l_ 72),p_ 2 74 (f_ 27 1),r_ 3 75 (l_ 74),p_ 4 76 (f_ 29 3),bm 5 (.st 1 (.t 76) (.t 73)),a_ 3 75 (l_ 74),p_ 6 77 (f_ 27 3),bm 7 (.st 1 (.t 77) (.t 75))]) (.seq (.seq (g_ 2 [p_ 0 78 (f_ 27 1),r_ 1 79 (l_ 78)]) (.cond (.t 79) (h_ 12 [p_ 0 80 (f_ 8 1),r_ 1 81 (l_ 80),p_ 2 82 (f_ 28 1),r_ 3 83 (l_ 82),p_ 4 84 (f_ 30 1),r_ 5 85 (l_ 84),p_ 6 86 (f_ 8 3),bm 7 (.st 1 (.t 86) (.t 81)),a_ 3 83 (l_ 82),a_ 5 85 (l_ 84),p_ 8 87 (f_ 28 3),bm 9 (.st 1 (.t 87) (.t 83)),a_ 5 85 (l_ 84),p_ 10 88 (f_ 30 3),bm 11 (.st 1 (.t 88) (.t 85))]) .skip)) (h_ 8 [p_ 0 89 (f_ 3 1),r_ 1 90 (l_ 89),p_ 2 91 (f_ 7 1),r_ 3 92 (l_ 91),p_ 4 93 (f_ 3 3),bm 5 (.st 1 (.t 93) (.t 90)),a_ 3 92 (l_ 91),p_ 6 94 (f_ 7 3),bm 7 (.st 1 (.t 94) (.t 92))]))) (.exit 2)))) (h_ 8 [p_ 0 95 (f_ 28 1),r_ 1 96 (l_ 95),p_ 2 97 (f_ 30 1),r_ 3 98 (l_ 97),p_ 4 99 (f_ 28 3),bm 5 (.st 1 (.t 99) (.t 96)),a_ 3 98 (l_ 97),p_ 6 100 (f_ 30 3),bm 7 (.st 1 (.t 100) (.t 98))]))) (.seq (h_ 8 [p_ 0 101 (f_ 3 1),r_ 1 102 (l_ 101),p_ 2 103 (f_ 7 1),r_ 3 104 (l_ 103),p_ 4 105 (f_ 3 3),bm 5 (.st 1 (.t 105) (.t 102)),a_ 3 104 (l_ 103),p_ 6 106 (f_ 7 3),bm 7 (.st 1 (.t 106) (.t 104))]) (.exit 2)))) (.seq (.seq (g_ 8 [p_ 0 107 (f_ 0 1),r_ 1 108 (l_ 107),p_ 2 109 (f_ 22 1),r_ 3 110 (.ld true 3 (.t 109)),p_ 4 111 (f_ 29 1),r_ 5 112 (l_ 111),p_ 6 113 (.bld [(.int 1 (.ofNat 0)),(.int 1 (.ofNat 0)),(.int 1 (.ofNat 0)),(.int 3 (.ofNat 0)),(.int 3 (.ofNat 0)),(.int 3 (.ofNat 0)),(.int 3 (.ofNat 0)),(.int 4 (.ofNat 0)),(.int 4 (.ofNat 0)),(.int 1 (.ofNat 0)),(.int 2 (.ofNat 0)),(.int 3 (.ofNat 0)),(.int 1 (.ofNat 0)),(.int 1 (.ofNat 0)),(.int 1 (.ofNat 0)),(.int 1 (.ofNat 0)),(.int 1 (.ofNat 0)),(.int 1 (.ofNat 0)),(.int 1 (.ofNat 0)),.nilS,(.int 1 (.ofNat 0)),(.str []),(.int 1 (.ofNat 0)),(.int 3 (.ofNat 0)),.nilS,(.int 1 (.ofNat 0)),(.int 2 (.ofNat 0)),(.bool false),.nilS,.nilS,.nilS] [(0,1),(22,3),(29,1)] [(.t 108),(.t 110),(.t 112)]),bm 7 (.st 31 (.t 2) (.t 113))]) .ret) (.exit 2)))) (.seq (g_ 4 [p_ 0 114 (f_ 25 1),r_ 1 115 (.ld true 2 (.t 114)),p_ 2 116 (f_ 25 3),bm 3 (.st 2 (.t 116) (.t 115))]) (.exit 2))))) (.seq (g_ 2 [r_ 0 117 (.ld true 31 (.t 3)),bm 1 (.st 31 (.t 2) (.t 117))]) .ret))))
theorem ad6:aN 138 acS:=⟨by kernel_rfl,by kernel_rfl⟩
def acR:XF:=.mk 49 .none (.seq (g_ 3 [p_ 0 8 (m_ 1),p_ 1 9 (.bin 0 0 (.t 8) (i_ 1)),p_ 2 6 (m_ 9)]) (.block 2 (.loop [0,1,2,6,7,10,11,12,13,14,15,16,17,18,19,20,21,22,23,24,25,26,27,28,29,30,31,32,33,34,35,36,37,38,39,40,41,42,43,44,45,46,47,48] (.seq (.seq (g_ 3 [p_ 0 10 (m_ 6),p_ 1 11 (m_ 2),p_ 2 12 (.bin 3 0 (.t 10) (.t 11))]) (.cond (.t 12) .skip (.exit 2))) (.seq (.block 3 (.seq (g_ 2 [p_ 0 15 (m_ 6),p_ 1 7 (m_ 15)]) (.block 4 (.loop [0,1,2,6,7,10,11,12,13,14,15,16,17,18,19,20,21,22,23,24,25,26,27,28,29,30,31,32,33,34,35,36,37,38,39,40,41,42,43,44,45,46,47,48] (.seq (.seq (h_ 15 [p_ 0 16 (m_ 7),p_ 1 17 (m_ 1),p_ 2 18 (.bin 3 2 (.t 16) (.t 17)),p_ 3 19 (m_ 18),am 4 20 19 true (m_ 0),am 5 21 19 true (m_ 7),am 6 22 19 true (.ixs 1 (.t 20) (.t 21)),aU 7 23 19 true (l_ 22),am 8 24 19 true (m_ 0),am 9 25 19 true (m_ 7),am 10 26 19 true (.bin 0 1 (.t 25) (i_ 1)),am 11 27 19 true (.ixs 1 (.t 24) (.t 26)),aU 12 28 19 true (l_ 27),da 13 29 19 true 151 [(.t 23),(.t 28)],p_ 14 30 (.pick (.t 19) (.t 29) (.c (.bool false)))]) (.cond (.t 30) .skip (.exit 4))) (.seq (.block 5 (h_ 18 [p_ 0 33 (m_ 0),p_ 1 34 (m_ 7),p_ 2 35 (m_ 0),p_ 3 36 (m_ 7),p_ 4 37 (.bin 0 1 (.t 36) (i_ 1)),p_ 5 38 (m_ 0),p_ 6 39 (m_ 7),p_ 7 40 (.bin 0 1 (.t 39) (i_ 1)),p_ 8 41 (.ixs 1 (.t 38) (.t 40)),r_ 9 42 (l_ 41),p_ 10 43 (m_ 0),p_ 11 44 (m_ 7),p_ 12 45 (.ixs 1 (.t 43) (.t 44)),r_ 13 46 (l_ 45),p_ 14 47 (.ixs 1 (.t 33) (.t 34)),bm 15 (.st 1 (.t 47) (.t 42)),p_ 16 48 (.ixs 1 (.t 35) (.t 37)),bm 17 (.st 1 (.t 48) (.t 46))])) (g_ 3 [p_ 0 31 (m_ 7),p_ 1 32 (.bin 0 1 (.t 31) (i_ 1)),p_ 2 7 (m_ 32)]))))))) (g_ 3 [p_ 0 13 (m_ 6),p_ 1 14 (.bin 0 0 (.t 13) (i_ 1)),p_ 2 6 (m_ 14)]))))))
theorem ad5:aN 145 acR:=⟨by kernel_rfl,by kernel_rfl⟩
def acQ:XF:=.mk 25 (.one 2) (.seq (g_ 1 [p_ 0 2 (.mv (i_ 0))]) (.seq (.seq (g_ 2 [p_ 0 3 (m_ 0),p_ 1 4 (.bin 3 3 (.t 3) (.c (.int 4 (.ofNat 4294967296))))]) (.cond (.t 4) (.seq (g_ 3 [p_ 0 5 (m_ 0),p_ 1 6 (.bin 2 1 (.t 5) (.c (.int 4 (.ofNat 32)))),p_ 2 0 (m_ 6)]) (g_ 1 [p_ 0 2 (.mv (i_ 32))])) .skip)) (.seq (.seq (g_ 2 [p_ 0 7 (m_ 0),p_ 1 8 (.bin 3 3 (.t 7) (.c (.int 4 (.ofNat 65536))))]) (.cond (.t 8) (.seq (g_ 3 [p_ 0 9 (m_ 0),p_ 1 10 (.bin 2 1 (.t 9) (.c (.int 4 (.ofNat 16)))),p_ 2 0 (m_ 10)]) (g_ 3 [p_ 0 11 (m_ 2),p_ 1 12 (.bin 0 0 (.t 11) (i_ 16)),p_ 2 2 (m_ 12)])) .skip)) (.seq (.seq (g_ 2 [p_ 0 13 (m_ 0),p_ 1 14 (.bin 3 3 (.t 13) (.c (.int 4 (.ofNat 256))))]) (.cond (.t 14) (.seq (g_ 3 [p_ 0 15 (m_ 0),p_ 1 16 (.bin 2 1 (.t 15) (.c (.int 4 (.ofNat 8)))),p_ 2 0 (m_ 16)]) (g_ 3 [p_ 0 17 (m_ 2),p_ 1 18 (.bin 0 0 (.t 17) (i_ 8)),p_ 2 2 (m_ 18)])) .skip)) (.seq (g_ 7 [p_ 0 19 (m_ 2),p_ 1 20 (m_ 0),p_ 2 21 (.cnv 1 (.t 20)),p_ 3 22 (.six (.c (.str [0,1,2,2,3,3,3,3,4,4,4,4,4,4,4,4,5,5,5,5,5,5,5,5,5,5,5,5,5,5,5,5,6,6,6,6,6,6,6,6,6,6,6,6,6,6,6,6,6,6,6,6,6,6,6,6,6,6,6,6,6,6,6,6,7,7,7,7,7,7,7,7,7,7,7,7,7,7,7,7,7,7,7,7,7,7,7,7,7,7,7,7,7,7,7,7,7,7,7,7,7,7,7,7,7,7,7,7,7,7,7,7,7,7,7,7,7,7,7,7,7,7,7,7,7,7,7,7,8,8,8,8,8,8,8,8,8,8,8,8,8,8,8,8,8,8,8,8,8,8,8,8,8,8,8,8,8,8,8,8,8,8,8,8,8,8,8,8,8,8,8,8,8,8,8,8,8,8,8,8,8,8,8,8,8,8,8,8,8,8,8,8,8,8,8,8,8,8,8,8,8,8,8,8,8,8,8,8,8,8,8,8,8,8,8,8,8,8,8,8,8,8,8,8,8,8,8,8,8,8,8,8,8,8,8,8,8,8,8,8,8,8,8,8,8,8,8,8,8,8,8,8,8,8,8,8])) (.t 21)),p_ 4 23 (.cnv 0 (.t 22)),p_ 5 24 (.bin 0 0 (.t 19) (.t 23)),p_ 6 2 (m_ 24)]) .ret)))))
theorem ad4:aN 155 acQ:=⟨by kernel_rfl,by kernel_rfl⟩
def acP:XF:=.mk 4 (.one 2) (.seq (g_ 2 [e_ 0 1 (.box 43 (.t 0)),p_ 1 2 (.mv (.c .nilF))]) (.seq (g_ 2 [p_ 0 3 (.mkf 176 [.t 1]),p_ 1 2 (m_ 3)]) .ret))
theorem ad3:aN 157 acP:=⟨by kernel_rfl,by kernel_rfl⟩
def acO:XF:=.mk 6 (.one 4) (.seq (g_ 3 [e_ 0 2 (.box 45 (.t 0)),e_ 1 3 (.box 113 (.t 1)),p_ 2 4 (.mv (.c .nilF))]) (.seq (g_ 2 [p_ 0 5 (.mkf 178 [(.t 2),(.t 3)]),p_ 1 4 (m_ 5)]) .ret))
theorem ad2:aN 159 acO:=⟨by kernel_rfl,by kernel_rfl⟩
def acN:XF:=.mk 14 (.one 4) (.seq (g_ 2 [e_ 0 3 (.box 5 (.t 1)),p_ 1 4 (.mv (.c (.bool false)))]) (.seq (g_ 10 [p_ 0 5 (m_ 0),p_ 1 6 (k_ 5),p_ 2 7 (.bin 3 1 (.t 6) (i_ 400)),p_ 3 8 (m_ 7),am 4 9 8 true (m_ 0),am 5 10 8 true (.mkf 181 [.t 3]),da 6 11 8 true 180 [(.t 9),(.t 10)],am 7 12 8 true (.un 0 (.t 11)),p_ 8 13 (.pick (.t 8) (.t 12) (.c (.bool false))),p_ 9 4 (m_ 13)]) .ret))
theorem ad1:aN 166 acN:=⟨by kernel_rfl,by kernel_rfl⟩
def acM:XF:=.mk 6 (.one 2) (.seq (g_ 1 [p_ 0 2 (.mv (.c (.bool false)))]) (.seq (g_ 4 [p_ 0 3 (m_ 0),p_ 1 4 (m_ 0),p_ 2 5 (.bin 3 5 (.t 3) (.t 4)),p_ 3 2 (m_ 5)]) .ret))
theorem ad0:aN 175 acM:=⟨by kernel_rfl,by kernel_rfl⟩
def acL:XF:=.mk 9 (.one 4) (.seq (g_ 1 [p_ 0 4 (.mv (.c (.bool false)))]) (.seq (g_ 5 [p_ 0 5 (m_ 0),p_ 1 6 (m_ 1),c_ 2 7 183 [(.t 5),(.t 6)],p_ 3 8 (.bin 3 3 (.t 7) (i_ 0)),p_ 4 4 (m_ 8)]) .ret))
theorem adZ:aN 180 acL:=⟨by kernel_rfl,by kernel_rfl⟩
def acK:XF:=.mk 8 (.one 3) (.seq (g_ 2 [e_ 0 2 (.box 68 (.t 0)),p_ 1 3 (.mv (.c (.bool false)))]) (.seq (g_ 5 [r_ 0 4 (.ld true 18 (.t 2)),r_ 1 5 (l_ 1),c_ 2 6 66 [(.t 4),(.t 5)],p_ 3 7 (.un 0 (.t 6)),p_ 4 3 (m_ 7)]) .ret))
theorem adY:aN 181 acK:=⟨by kernel_rfl,by kernel_rfl⟩
noncomputable def Zb (f:Nat):Option XF:=(Bool.rec (Bool.rec (Bool.rec (Bool.rec (Bool.rec (Bool.rec (Bool.rec (Bool.rec none (some acK) (Nat.beq f 181)) (Bool.rec none (some acL) (Nat.beq f 180)) (Nat.blt f 181)) (Bool.rec none (some acM) (Nat.beq f 175)) (Nat.blt f 180)) (Bool.rec (Bool.rec none (some acN) (Nat.beq f 166)) (Bool.rec none (some acO) (Nat.beq f 159)) (Nat.blt f 166)) (Nat.blt f 175)) (Bool.rec (Bool.rec (Bool.rec (Bool.rec none (some acP) (Nat.beq f 157)) (Bool.rec none (some acQ) (Nat.beq f 155)) (Nat.blt f 157)) (Bool.rec none (some acR) (Nat.beq f 145)) (Nat.blt f 155)) (Bool.rec (Bool.rec none (some acS) (Nat.beq f 138)) (Bool.rec none (some acT) (Nat.beq f 137)) (Nat.blt f 138)) (Nat.blt f 145)) (Nat.blt f 159)) (Bool.rec (Bool.rec (Bool.rec (Bool.rec (Bool.rec none (some acU) (Nat.beq f 136)) (Bool.rec none (some acV) (Nat.beq f 126)) (Nat.blt f 136)) (Bool.rec none (some acW) (Nat.beq f 125)) (Nat.blt f 126)) (Bool.rec (Bool.rec none (some acX) (Nat.beq f 121)) (Bool.rec none (some acY) (Nat.beq f 120)) (Nat.blt f 121)) (Nat.blt f 125)) (Bool.rec (Bool.rec (Bool.rec none (some acZ) (Nat.beq f 114)) (Bool.rec none (some ac0) (Nat.beq f 112)) (Nat.blt f 114)) (Bool.rec (Bool.rec none (some ac1) (Nat.beq f 111)) (Bool.rec none (some ac2) (Nat.beq f 110)) (Nat.blt f 111)) (Nat.blt f 112)) (Nat.blt f 120)) (Nat.blt f 137)) (Bool.rec (Bool.rec (Bool.rec (Bool.rec (Bool.rec (Bool.rec none (some agh) (Nat.beq f 98)) (Bool.rec none (some agj) (Nat.beq f 92)) (Nat.blt f 98)) (Bool.rec none (some agl) (Nat.beq f 91)) (Nat.blt f 92)) (Bool.rec (Bool.rec none (some agn) (Nat.beq f 90)) (Bool.rec none (some agp) (Nat.beq f 89)) (Nat.blt f 90)) (Nat.blt f 91)) (Bool.rec (Bool.rec (Bool.rec (Bool.rec none (some agr) (Nat.beq f 88)) (Bool.rec none (some agt) (Nat.beq f 87)) (Nat.blt f 88)) (Bool.rec none (some agv) (Nat.beq f 86)) (Nat.blt f 87)) (Bool.rec (Bool.rec none (some agx) (Nat.beq f 80)) (Bool.rec none (some agz) (Nat.beq f 79)) (Nat.blt f 80)) (Nat.blt f 86)) (Nat.blt f 89)) (Bool.rec (Bool.rec (Bool.rec (Bool.rec (Bool.rec none (some agB) (Nat.beq f 78)) (Bool.rec none (some agD) (Nat.beq f 75)) (Nat.blt f 78)) (Bool.rec none (some agF) (Nat.beq f 74)) (Nat.blt f 75)) (Bool.rec (Bool.rec none (some agH) (Nat.beq f 68)) (Bool.rec none (some agJ) (Nat.beq f 67)) (Nat.blt f 68)) (Nat.blt f 74)) (Bool.rec (Bool.rec (Bool.rec none (some agL) (Nat.beq f 66)) (Bool.rec none (some agN) (Nat.beq f 65)) (Nat.blt f 66)) (Bool.rec (Bool.rec none (some agP) (Nat.beq f 63)) (Bool.rec none (some agR) (Nat.beq f 61)) (Nat.blt f 63)) (Nat.blt f 65)) (Nat.blt f 67)) (Nat.blt f 79)) (Nat.blt f 110)) (Bool.rec (Bool.rec (Bool.rec (Bool.rec (Bool.rec (Bool.rec (Bool.rec none (some agT) (Nat.beq f 60)) (Bool.rec none (some agV) (Nat.beq f 59)) (Nat.blt f 60)) (Bool.rec none (some agX) (Nat.beq f 58)) (Nat.blt f 59)) (Bool.rec (Bool.rec none (some agZ) (Nat.beq f 57)) (Bool.rec none (some ag1) (Nat.beq f 56)) (Nat.blt f 57)) (Nat.blt f 58)) (Bool.rec (Bool.rec (Bool.rec (Bool.rec none (some ag3) (Nat.beq f 55)) (Bool.rec none (some ag5) (Nat.beq f 54)) (Nat.blt f 55)) (Bool.rec none (some ag7) (Nat.beq f 53)) (Nat.blt f 54)) (Bool.rec (Bool.rec none (some ag9) (Nat.beq f 52)) (Bool.rec none (some ahb) (Nat.beq f 49)) (Nat.blt f 52)) (Nat.blt f 53)) (Nat.blt f 56)) (Bool.rec (Bool.rec (Bool.rec (Bool.rec (Bool.rec none (some ahd) (Nat.beq f 48)) (Bool.rec none (some ahf) (Nat.beq f 47)) (Nat.blt f 48)) (Bool.rec none (some ahh) (Nat.beq f 46)) (Nat.blt f 47)) (Bool.rec (Bool.rec none (some ahj) (Nat.beq f 45)) (Bool.rec none (some ahl) (Nat.beq f 44)) (Nat.blt f 45)) (Nat.blt f 46)) (Bool.rec (Bool.rec (Bool.rec none (some ahn) (Nat.beq f 43)) (Bool.rec none (some ahp) (Nat.beq f 42)) (Nat.blt f 43)) (Bool.rec (Bool.rec none (some ahr) (Nat.beq f 41)) (Bool.rec none (some aht) (Nat.beq f 38)) (Nat.blt f 41)) (Nat.blt f 42)) (Nat.blt f 44)) (Nat.blt f 49)) (Bool.rec (Bool.rec (Bool.rec (Bool.rec (Bool.rec (Bool.rec none (some ahv) (Nat.beq f 36)) (Bool.rec none (some ahx) (Nat.beq f 35)) (Nat.blt f 36)) (Bool.rec none (some ahz) (Nat.beq f 34)) (Nat.blt f 35)) (Bool.rec (Bool.rec none (some ahB) (Nat.beq f 33)) (Bool.rec none (some ahD) (Nat.beq f 32)) (Nat.blt f 33)) (Nat.blt f 34)) (Bool.rec (Bool.rec (Bool.rec (Bool.rec none (some ahF) (Nat.beq f 30)) (Bool.rec none (some ahH) (Nat.beq f 28)) (Nat.blt f 30)) (Bool.rec none (some ahJ) (Nat.beq f 27)) (Nat.blt f 28)) (Bool.rec (Bool.rec none (some ahL) (Nat.beq f 26)) (Bool.rec none (some ahN) (Nat.beq f 25)) (Nat.blt f 26)) (Nat.blt f 27)) (Nat.blt f 32)) (Bool.rec (Bool.rec (Bool.rec (Bool.rec (Bool.rec none (some ahP) (Nat.beq f 24)) (Bool.rec none (some ahR) (Nat.beq f 23)) (Nat.blt f 24)) (Bool.rec none (some ahT) (Nat.beq f 22)) (Nat.blt f 23)) (Bool.rec (Bool.rec none (some ahV) (Nat.beq f 21)) (Bool.rec none (some ahX) (Nat.beq f 19)) (Nat.blt f 21)) (Nat.blt f 22)) (Bool.rec (Bool.rec (Bool.rec none (some ahZ) (Nat.beq f 16)) (Bool.rec none (some ah1) (Nat.beq f 14)) (Nat.blt f 16)) (Bool.rec (Bool.rec none (some ah3) (Nat.beq f 13)) (Bool.rec none (some ah5) (Nat.beq f 12)) (Nat.blt f 13)) (Nat.blt f 14)) (Nat.blt f 19)) (Nat.blt f 25)) (Nat.blt f 38)) (Nat.blt f 61))
theorem aR {f n:Nat} {x y:XF} (hy:aN n y) (h:(Bool.rec (motive:=fun _=>Option XF) none (some y) (Nat.beq f n))=some x):aN f x:=by
 cases hb:Nat.beq f n with
 |false=>rw[hb]at h;cases h
 |true=>rw[hb]at h;cases h;rw[ako hb];exact hy
theorem aS {f n:Nat} {a b:Option XF} {x:XF} (ha:a=some x→aN f x) (hb:b=some x→aN f x) (h:(Bool.rec (motive:=fun _=>Option XF) a b (Nat.blt f n))=some x):aN f x:=by
 cases hc:Nat.blt f n with
 |false=>rw[hc]at h;exact ha h
 |true=>rw[hc]at h;exact hb h
theorem age (f:Nat) (x:XF) (h:Zb f=some x):aW Tryz.prog f x=true∧plain (lu x)=true:=(aS (aS (aS (aS (aS (aS (aS (aR adY) (aR adZ)) (aR ad0)) (aS (aR ad1) (aR ad2))) (aS (aS (aS (aR ad3) (aR ad4)) (aR ad5)) (aS (aR ad6) (aR ad7)))) (aS (aS (aS (aS (aR ad8) (aR ad9)) (aR aea)) (aS (aR aeb) (aR aec))) (aS (aS (aR aed) (aR aee)) (aS (aR aef) (aR aeg))))) (aS (aS (aS (aS (aS (aR agf) (aR agi)) (aR agk)) (aS (aR agm) (aR ago))) (aS (aS (aS (aR agq) (aR ags)) (aR agu)) (aS (aR agw) (aR agy)))) (aS (aS (aS (aS (aR agA) (aR agC)) (aR agE)) (aS (aR agG) (aR agI))) (aS (aS (aR agK) (aR agM)) (aS (aR agO) (aR agQ)))))) (aS (aS (aS (aS (aS (aS (aR agS) (aR agU)) (aR agW)) (aS (aR agY) (aR ag0))) (aS (aS (aS (aR ag2) (aR ag4)) (aR ag6)) (aS (aR ag8) (aR aha)))) (aS (aS (aS (aS (aR ahc) (aR ahe)) (aR ahg)) (aS (aR ahi) (aR ahk))) (aS (aS (aR ahm) (aR aho)) (aS (aR ahq) (aR ahs))))) (aS (aS (aS (aS (aS (aR ahu) (aR ahw)) (aR ahy)) (aS (aR ahA) (aR ahC))) (aS (aS (aS (aR ahE) (aR ahG)) (aR ahI)) (aS (aR ahK) (aR ahM)))) (aS (aS (aS (aS (aR ahO) (aR ahQ)) (aR ahS)) (aS (aR ahU) (aR ahW))) (aS (aS (aR ahY) (aR ah0)) (aS (aR ah2) (aR ah4))))))) h
theorem bD:Tryz.prog.follows .mixedOrders=true:=by kernel_rfl
end Go.Proofs.Tryz
namespace Go.Proofs.Tryz
open Go Go.RowKit Go.Sy
open Go.Eng hiding ah
set_option maxRecDepth 1000000
set_option linter.unusedVariables false
set_option maxHeartbeats 4000000
noncomputable def ca (M:T) (i:Nat):Nat:=Option.casesOn (M.get i) 0 fun o=>AObj.casesOn o (fun _ _ _ els=>dN els) (fun es _=>dN es) (fun _ _ _ _=>0) 0 (fun _ _ _ _ _=>0) (fun _ _ _ _ _ _ _=>0)
theorem dT {P:Program} {f k:Nat}:aX P f k (fun _ _ _ _=>false):=fun us xs E ρ G F M nx w K R _ _ _ h=>by cases h
noncomputable def bn (b:List AV→T→Bool) (sA sB:aM):aM:=fun us M nx K=>Bool.rec (sB us M nx K) (sA us M nx K) (b us M)
noncomputable def mF (i m:Nat) (us:List AV) (M:T):Bool:=Nat.beq (ca M i) m
theorem aD {P:Program} {f k:Nat} {sA sB:aM} {b:List AV→T→Bool} (hA:aX P f k sA) (hB:aX P f k sB):aX P f k (bn b sA sB):=by
 intro us xs E ρ G F M nx w K R h1 h2 h3 h4
 have h4:(Bool.rec (motive:=fun _=>Bool) (sB us M nx K) (sA us M nx K) (b us M):Bool)=true:=h4
 cases hb:b us M with
 |true=>rw[hb]at h4;exact hA us xs E ρ G F M nx w K R h1 h2 h3 h4
 |false=>rw[hb]at h4;exact hB us xs E ρ G F M nx w K R h1 h2 h3 h4
abbrev KE:=AV→T→Nat→Bool
abbrev IE:=List AV×T×Nat
abbrev IL:=SL×T×Nat
noncomputable def be {α:Type} (I:α→IE) (sp:α→KE→Bool):aM:=fun us M nx K=>ax fun p:α=>ac (aF ((us,M,nx)=I p)) (sp p K)
theorem cS {P:Program} (hm:P.follows .mixedOrders=true) {cf:iB} (hcf:jF P cf) {lp:gB} {lf f k:Nat} {xf:XF} {α:Type} {I:α→IE} {sp:α→KE→Bool} (hf:aW P f xf=true) (hkp:fG k (lu xf)=true) (hlp:∀b j x,(b,j,x)∈fk (lu xf)→dp P (nOf xf) k lp b j x)
  (h:∀p K,sp p K=true→aY k cf lp lf xf (I p).1 (I p).2.1 (I p).2.2 K=true):aX P f k (be I sp):=
 aeR hm hcf hf hkp hlp fun us M nx K hk=>by
  obtain⟨p,h1⟩:=bJ hk
  obtain⟨e,h2⟩:=ae h1
  have h3:=h p K h2
  rw[←e]at h3
  exact h3
noncomputable def cm {α:Type} (pre:α→Prop) (out:α→KE→Bool) (p:α) (K:KE):Bool:=ac (aF (pre p)) (out p K)
noncomputable def aZ (prev:Nat→List AV→Option ES) (k:Nat) (es:aM) (g:Nat) (l:List (Nat×Nat)) (f:Nat) (vs:List AV):Option ES:=Bool.rec (prev f vs) (some (.mk k es)) (XQ f g vs l)
def aE (P:Program) (nat:Nat→List AV→Option ES):Prop:=∀f vs k sp,nat f vs=some (.mk k sp)→aX P f k sp
theorem az {P:Program} {prev:Nat→List AV→Option ES} {k g:Nat} {es:aM} {l:List (Nat×Nat)} (h1:aX P g k es) (h2:aE P prev):aE P (aZ prev k es g l):=fun f vs k' sp h=>abS h1 (h2 f vs k' sp) h
noncomputable def pu:Nat→List AV→Option ES:=fun _ _=>none
theorem fX {P:Program}:aE P pu:=fun _ _ _ _ h=>by cases h
noncomputable def bp:gB:=fun _ _ _ _ _=>false
noncomputable def qI (k:Nat) (z:Int):Bool:=aF ((SY.int k z)= .int k z)
noncomputable def qS (l:List UInt8):Bool:=aF ((SY.str l)= .str l)
noncomputable def qY (x:SY):Bool:=aF (x=x)
noncomputable def qL (l:List Bool):Bool:=List.rec true (fun a _ r=>Bool.and a r) l
noncomputable def mP (p:Prop) (b:Bool):Bool:=ac (aF p) b
noncomputable def iP (p:Prop) (x y:Bool):Bool:=br (aF p) x y
def bA:AObj:=.blk false 132 5 [[.int 4 (.ofNat 0),.int 4 (.ofNat 0),.nilS,.nilS,.bool true]]
def aa:AV:=.int 1 (.ofNat 0)
def bj:AV:=.int 2 (.ofNat 1)
def bt:AV:=.int 3 (.ofNat 1)
def cE:AV:=.int 0 (.ofNat 0)
def bu:List AV:=[.int 1 (.ofNat 0),.int 2 (.ofNat 1)]
def jb:AObj:=.blk true 52 2 [[.int 1 (.ofNat 0),.int 2 (.ofNat 1)]]
def bR (m x l h:Nat) (e:AV) (n:Nat) (c:Int):AObj:=.blk false 104 10 [[.int 1 (.ofNat 0),.int 3 (.ofNat 1),.sl x 0 m (.rest 0),e,.int 2 (.ofNat 1),.sy (.prow l n),.int 0 (.ofNat 0),.sy (.int 0 c),.bool false,.map h]]
def ke:AV:=.int 1 (.ofNat 1)
def bK:List AV:=[.int 1 (.ofNat 1),.int 2 (.ofNat 1)]
def bN:AObj:=.blk true 52 2 [[.int 1 (.ofNat 0),.int 2 (.ofNat 1)],[.int 1 (.ofNat 1),.int 2 (.ofNat 1)]]
def sR:AV:=.int 1 (.ofNat 2)
def cQ:List AV:=[.int 1 (.ofNat 2),.int 2 (.ofNat 1)]
def bE:AObj:=.blk true 52 2 [[.int 1 (.ofNat 0),.int 2 (.ofNat 1)],[.int 1 (.ofNat 1),.int 2 (.ofNat 1)],[.int 1 (.ofNat 2),.int 2 (.ofNat 1)]]
def cu:AV:=.int 1 (.ofNat 3)
def fx:List AV:=[.int 1 (.ofNat 3),.int 2 (.ofNat 1)]
def bw:AObj:=.blk true 52 2 [[.int 1 (.ofNat 0),.int 2 (.ofNat 1)],[.int 1 (.ofNat 1),.int 2 (.ofNat 1)],[.int 1 (.ofNat 2),.int 2 (.ofNat 1)],[.int 1 (.ofNat 3),.int 2 (.ofNat 1)]]
def aJ:AV:=.int 2 (.ofNat 0)
def aw:AV:=.int 3 (.ofNat 0)
def gK (v w:Int):AV:=.agg [.int 1 (.ofNat 2),.int 1 (.ofNat 0),.int 2 (.ofNat 0),.int 3 (.ofNat 0),.int 1 (.ofNat 0),.int 1 (.ofNat 0),.int 1 (.ofNat 0),.int 1 (.ofNat 0),.int 1 (.ofNat 0),.int 1 (.ofNat 0),.int 1 (.ofNat 0),.int 3 (.ofNat 0),.nilS,.int 1 (.ofNat 0),.str [],.nilS,.sy (.int 1 v),.sy (.int 2 w)]
def aI:AV:=.int 4 (.ofNat 0)
def ju:AV:=.int 1 (.ofNat 4)
def nw:AV:=.int 0 (.ofNat 2)
def bV (m x:Nat):AObj:=.blk true 45 3 [[.int 1 (.ofNat 0),.int 3 (.ofNat 1),.sl x 0 m (.rest 0)]]
def bS (m v r a t b:Nat) (e:AV):AObj:=.blk false 86 21 [[.int 1 (.ofNat 0),.int 3 (.ofNat 1),.sl v 0 m (.rest 0),.ptr r 0,.ptr a 0,.nilP,.int 0 (.ofNat 0),.int 1 (.ofNat 0),e,.int 2 (.ofNat 1),.sl t 0 m (.rest 0),.nilS,.nilS,.nilS,.bool false,.int 3 (.ofNat 1),.int 3 (.ofNat 0),.int 0 (.ofNat 2),.nilS,.sl b 0 1 (.rest 0),.int 0 (.ofNat 0)]]
def sS:AV:=.int 0 (.ofNat 1)
def XM:AV:=.int 0 (.ofNat 3)
def cx:AV:=.int 0 (.ofNat 20)
theorem mI {p:Prop} {b:Bool} (h:p) (k:b=true):mP p b=true:=bT h k
theorem aQ {p:Prop} {b:Bool} (k:b=true) (h:p:=by simp only[aL];omega):mP p b=true:=bT h k
theorem gy {p:Prop} {b:Bool} (k:b=true) (h:p:=by first|omega|(constructor<;>omega)):mP p b=true:=bT h k
theorem cZ {p:Prop} {b:Bool} (k:b=true) (h:p:=by omega):mP p b=true:=bT h k
theorem aK {p:Prop} {b:Bool} (k:b=true) (h:p:=by exact rfl):mP p b=true:=bT h k
theorem iI {p:Prop} {x y:Bool} (h:p→x=true) (k:¬p→y=true):iP p x y=true:=ifP h k
noncomputable def bf {α β R:Type _} (s:β) (I:α→β) (pre:α→Prop) (po:α→R→Prop) (k:α→R→Bool):Bool:=ax fun p=>mP (s=I p) (mP (pre p) (ah fun r=>iP (po p r) (k p r) true))
theorem aB {α β R:Type _} {s:β} {I:α→β} {pre:α→Prop} {po:α→R→Prop} {k:α→R→Bool} (w:α) (h1:s=I w) (h2:pre w) (h3:∀r,po w r→k w r=true):bf s I pre po k=true:=
 aH w (bT h1 (bT h2 (aj fun r=>ifP (h3 r) fun _=>rfl)))
theorem gE {α R:Type} {e:α→Prop} {po:α→R→Prop} {k:α→R→Bool} (w:α) (h1:e w) (h3:∀r,po w r→k w r=true):(ax fun p=>mP (e p) (ah fun r=>iP (po p r) (k p r) true))=true:=
 aH w (bT h1 (aj fun r=>ifP (h3 r) fun _=>rfl))
theorem aP {α:Type} {e pre:α→Prop} {k:α→Bool} (w:α) (h1:e w) (h2:pre w) (h3:k w=true):(ax fun p=>mP (e p) (mP (pre p) (k p)))=true:=aH w (bT h1 (bT h2 h3))
noncomputable abbrev bg (nat:Nat→List AV→Option ES):iB:=Yr Zb nat bp 600 40
theorem ay {nat:Nat→List AV→Option ES} (h:aE Tryz.prog nat):jF Tryz.prog (bg nat):=Tz (lp:=bp) (lf:=600) bD age h 40
theorem bi {nat:Nat→List AV→Option ES} (hcf:jF Tryz.prog (bg nat)) {f k:Nat} {xf:XF} {α:Type} {I:α→IE} {pre:α→Prop} {out:α→KE→Bool} (hf:aW Tryz.prog f xf=true) (hkp:fG k (lu xf)=true) (hlp:fk (lu xf)=[])
  (h:∀p K,pre p→out p K=true→aY k (bg nat) bp 600 xf (I p).1 (I p).2.1 (I p).2.2 K=true):aX Tryz.prog f k (be I (cm pre out)):=
 cS (lp:=bp) (lf:=600) bD hcf hf hkp (fun b j x h=>by rw[hlp]at h;cases h) fun p K hk=>h p K (ae hk).1 (ae hk).2
theorem ck {nat:Nat→List AV→Option ES} (hcf:jF Tryz.prog (bg nat)) {f k:Nat} {xf:XF} {α:Type} {I:α→IE} {out:α→KE→Bool} (hf:aW Tryz.prog f xf=true) (hkp:fG k (lu xf)=true) (hlp:fk (lu xf)=[])
  (h:∀p K,out p K=true→aY k (bg nat) bp 600 xf (I p).1 (I p).2.1 (I p).2.2 K=true):aX Tryz.prog f k (be I out):=
 cS (lp:=bp) (lf:=600) bD hcf hf hkp (fun b j x h=>by rw[hlp]at h;cases h) h
def Wd:XF:=.mk 17 (.one 4) (.seq (g_ 1 [p_ 0 4 (.mv (.c (.bool false)))]) (.seq (g_ 13 [p_ 0 5 (m_ 0),c_ 1 6 175 [.t 5],p_ 2 7 (m_ 6),am 3 8 7 true (m_ 1),da 4 9 7 true 175 [.t 8],am 5 10 7 true (.un 0 (.t 9)),p_ 6 11 (.pick (.t 7) (.t 10) (.c (.bool false))),p_ 7 12 (m_ 11),am 8 13 12 false (m_ 0),am 9 14 12 false (m_ 1),am 10 15 12 false (.bin 3 0 (.t 13) (.t 14)),p_ 11 16 (.pick (.t 12) (.c (.bool true)) (.t 15)),p_ 12 4 (m_ 16)]) .ret))
theorem XU:aW Tryz.prog 151 Wd=true:=by kernel_rfl
structure cM where
 x:Int
 y:Int
noncomputable def cI (p:cM):IE:=([.sy (.int 0 p.x),.sy (.int 0 p.y)],.leaf,0)
noncomputable def Qn (p:cM) (K:KE):Bool:=K (.sy (.bool (p.x<p.y))) .leaf 0
theorem ads (p:cM) (K:KE) (hK:Qn p K=true):(aY 0 (bg pu) bp 600 Wd (cI p).1 (cI p).2.1 (cI p).2.2 K)=true:=by
 refine Eq.trans (b:=(iP (¬p.x=p.x) (iP (¬(¬p.y=p.y)) (K (.bool true) .leaf 0) (K (.sy (.bool (p.x<p.y))) .leaf 0)) (K (.sy (.bool (p.x<p.y))) .leaf 0))) (by kernel_rfl) ?_
 refine iI (fun hc1=> ?_) (fun hc1=> ?_)
 refine iI (fun hc2=> ?_) (fun hc2=> ?_)
 exfalso;omega
 exact hK
 exact hK
noncomputable def HE:=aZ pu 0 (be cI Qn) 151 [(0,20),(1,20)]
theorem Gx:aE Tryz.prog HE:=az (ck (f:=151) (k:=0) (ay fX) XU (by rfl) (by rfl) ads) fX
structure Ke where
 v:Int
 w:Int
def ai (x:Ke):List PL:=[.int 1 (.ofNat 2),.int 1 (.ofNat 0),.int 2 (.ofNat 0),.int 3 (.ofNat 0),.int 1 (.ofNat 0),.int 1 (.ofNat 0),.int 1 (.ofNat 0),.int 1 (.ofNat 0),.int 1 (.ofNat 0),.int 1 (.ofNat 0),.int 1 (.ofNat 0),.int 3 (.ofNat 0),.nilS,.int 1 (.ofNat 0),.str [],.nilS,.sint 1 x.v,.sint 2 x.w]
noncomputable def Ro1 (l:List Ke) (com:Int) (c0:Int) (k0:Nat):T:=(.node (.node (.node .leaf (some (.map [(.agg bu,.sy (.int 0 c0),0)] 1)) .leaf) (some (jb)) .leaf) (some (bR 1 1 2 3 aa k0 com)) (.node .leaf (some (.prow 68 18 Ke l ai)) .leaf))
noncomputable def sU (l:List Ke) (com:Int) (c0:Int):T:=Ro1 l com c0 l.length
noncomputable def Rs1 (l:List Ke) (com:Int) (c0:Int) (v0:Int) (k0:Nat):T:=(.node (.node (.node .leaf (some (.prow 68 18 Ke l ai)) .leaf) (some (.blk false 3 1 [[.sy (.int 0 v0)]])) .leaf) (some (bR 1 2 3 4 aa k0 com)) (.node (.node .leaf (some (.map [(.agg bu,.sy (.int 0 c0),0)] 1)) .leaf) (some (jb)) .leaf))
noncomputable def acG (l:List Ke) (com:Int) (c0:Int) (v0:Int):T:=Rs1 l com c0 v0 l.length
noncomputable def Ro2 (l:List Ke) (com:Int) (c0:Int) (c1:Int) (k0:Nat):T:=(.node (.node (.node .leaf (some (.map [(.agg bu,.sy (.int 0 c0),0),(.agg bK,.sy (.int 0 c1),1)] 2)) .leaf) (some (bN)) .leaf) (some (bR 2 1 2 3 aa k0 com)) (.node .leaf (some (.prow 68 18 Ke l ai)) .leaf))
noncomputable def ir (l:List Ke) (com:Int) (c0:Int) (c1:Int):T:=Ro2 l com c0 c1 l.length
noncomputable def Rm2 (l:List Ke) (com:Int) (c0:Int) (c1:Int) (me:Int) (k0:Nat):T:=(.node (.node (.node .leaf (some (.map [(.agg bu,.sy (.int 0 c0),0),(.agg bK,.sy (.int 0 c1),1)] 2)) .leaf) (some (bN)) .leaf) (some (bR 2 1 2 3 (.sy (.int 1 me)) k0 com)) (.node .leaf (some (.prow 68 18 Ke l ai)) .leaf))
noncomputable def vJ (l:List Ke) (com:Int) (c0:Int) (c1:Int) (me:Int):T:=Rm2 l com c0 c1 me l.length
noncomputable def Rs2 (l:List Ke) (com:Int) (c0:Int) (c1:Int) (v0:Int) (v1:Int) (k0:Nat):T:=(.node (.node (.node .leaf (some (.prow 68 18 Ke l ai)) .leaf) (some (.blk false 3 1 [[.sy (.int 0 v0)],[.sy (.int 0 v1)]])) .leaf) (some (bR 2 2 3 4 aa k0 com)) (.node (.node .leaf (some (.map [(.agg bu,.sy (.int 0 c0),0),(.agg bK,.sy (.int 0 c1),1)] 2)) .leaf) (some (bN)) .leaf))
noncomputable def YB (l:List Ke) (com:Int) (c0:Int) (c1:Int) (v0:Int) (v1:Int):T:=Rs2 l com c0 c1 v0 v1 l.length
noncomputable def Ro3 (l:List Ke) (com:Int) (c0:Int) (c1:Int) (c2:Int) (k0:Nat):T:=(.node (.node (.node .leaf (some (.map [(.agg bu,.sy (.int 0 c0),0),(.agg bK,.sy (.int 0 c1),1),(.agg cQ,.sy (.int 0 c2),2)] 3)) .leaf) (some (bE)) .leaf) (some (bR 3 1 2 3 aa k0 com)) (.node .leaf (some (.prow 68 18 Ke l ai)) .leaf))
noncomputable def gG (l:List Ke) (com:Int) (c0:Int) (c1:Int) (c2:Int):T:=Ro3 l com c0 c1 c2 l.length
noncomputable def Rm3 (l:List Ke) (com:Int) (c0:Int) (c1:Int) (c2:Int) (me:Int) (k0:Nat):T:=(.node (.node (.node .leaf (some (.map [(.agg bu,.sy (.int 0 c0),0),(.agg bK,.sy (.int 0 c1),1),(.agg cQ,.sy (.int 0 c2),2)] 3)) .leaf) (some (bE)) .leaf) (some (bR 3 1 2 3 (.sy (.int 1 me)) k0 com)) (.node .leaf (some (.prow 68 18 Ke l ai)) .leaf))
noncomputable def vI (l:List Ke) (com:Int) (c0:Int) (c1:Int) (c2:Int) (me:Int):T:=Rm3 l com c0 c1 c2 me l.length
noncomputable def Rs3 (l:List Ke) (com:Int) (c0:Int) (c1:Int) (c2:Int) (v0:Int) (v1:Int) (v2:Int) (k0:Nat):T:=(.node (.node (.node .leaf (some (.prow 68 18 Ke l ai)) .leaf) (some (.blk false 3 1 [[.sy (.int 0 v0)],[.sy (.int 0 v1)],[.sy (.int 0 v2)]])) .leaf) (some (bR 3 2 3 4 aa k0 com)) (.node (.node .leaf (some (.map [(.agg bu,.sy (.int 0 c0),0),(.agg bK,.sy (.int 0 c1),1),(.agg cQ,.sy (.int 0 c2),2)] 3)) .leaf) (some (bE)) .leaf))
noncomputable def Ew (l:List Ke) (com:Int) (c0:Int) (c1:Int) (c2:Int) (v0:Int) (v1:Int) (v2:Int):T:=Rs3 l com c0 c1 c2 v0 v1 v2 l.length
noncomputable def Ro4 (l:List Ke) (com:Int) (c0:Int) (c1:Int) (c2:Int) (c3:Int) (k0:Nat):T:=(.node (.node (.node .leaf (some (.map [(.agg bu,.sy (.int 0 c0),0),(.agg bK,.sy (.int 0 c1),1),(.agg cQ,.sy (.int 0 c2),2),(.agg fx,.sy (.int 0 c3),3)] 4)) .leaf) (some (bw)) .leaf) (some (bR 4 1 2 3 aa k0 com)) (.node .leaf (some (.prow 68 18 Ke l ai)) .leaf))
noncomputable def fH (l:List Ke) (com:Int) (c0:Int) (c1:Int) (c2:Int) (c3:Int):T:=Ro4 l com c0 c1 c2 c3 l.length
noncomputable def Rm4 (l:List Ke) (com:Int) (c0:Int) (c1:Int) (c2:Int) (c3:Int) (me:Int) (k0:Nat):T:=(.node (.node (.node .leaf (some (.map [(.agg bu,.sy (.int 0 c0),0),(.agg bK,.sy (.int 0 c1),1),(.agg cQ,.sy (.int 0 c2),2),(.agg fx,.sy (.int 0 c3),3)] 4)) .leaf) (some (bw)) .leaf) (some (bR 4 1 2 3 (.sy (.int 1 me)) k0 com)) (.node .leaf (some (.prow 68 18 Ke l ai)) .leaf))
noncomputable def vH (l:List Ke) (com:Int) (c0:Int) (c1:Int) (c2:Int) (c3:Int) (me:Int):T:=Rm4 l com c0 c1 c2 c3 me l.length
noncomputable def Rs4 (l:List Ke) (com:Int) (c0:Int) (c1:Int) (c2:Int) (c3:Int) (v0:Int) (v1:Int) (v2:Int) (v3:Int) (k0:Nat):T:=(.node (.node (.node .leaf (some (.prow 68 18 Ke l ai)) .leaf) (some (.blk false 3 1 [[.sy (.int 0 v0)],[.sy (.int 0 v1)],[.sy (.int 0 v2)],[.sy (.int 0 v3)]])) .leaf) (some (bR 4 2 3 4 aa k0 com)) (.node (.node .leaf (some (.map [(.agg bu,.sy (.int 0 c0),0),(.agg bK,.sy (.int 0 c1),1),(.agg cQ,.sy (.int 0 c2),2),(.agg fx,.sy (.int 0 c3),3)] 4)) .leaf) (some (bw)) .leaf))
noncomputable def fp (l:List Ke) (com:Int) (c0:Int) (c1:Int) (c2:Int) (c3:Int) (v0:Int) (v1:Int) (v2:Int) (v3:Int):T:=Rs4 l com c0 c1 c2 c3 v0 v1 v2 v3 l.length
theorem aaj {l m:List Int} (h:∀v:Int,l.count v=m.count v) {p:Int→Bool}:(l.filter p).length=(m.filter p).length:=((List.perm_iff_count.2 h).filter p).length_eq
def comR (maj:Nat) (com c2:Int) (cl:List Int):Prop:=∃v:Int,c2=max com v∧maj≤(cl.filter fun x=>decide (v≤x)).length∧∀u:Int,maj≤(cl.filter fun x=>decide (u≤x)).length→u≤v
theorem Fu {maj:Nat} {com c2 v:Int} {a b cl:List Int} (e:c2=max com v) (h:∀w:Int,(a++v::b).count w=cl.count w) (hl:b.length+1=maj) (ha:∀x∈a,x≤v) (hb:∀x∈b,v≤x):comR maj com c2 cl:=by
 refine⟨v,e,?_,fun u hu=> ?_⟩
 ·have e1:(b.filter fun x=>decide (v≤x))=b:=List.filter_eq_self.2 fun x hx=>by simpa using hb x hx
  rw[←aaj h,List.filter_append,List.filter_cons_of_pos (by simp),e1]
  simp only[akk,List.length_cons]
  omega
 ·rw[←aaj h,List.filter_append,akk]at hu
  refine Int.not_lt.1 fun hlt=> ?_
  rw[List.filter_eq_nil_iff.2 (fun x hx=>by have:=ha x hx;simp;omega),List.filter_cons_of_neg (by simp;omega)]at hu
  have:=List.length_filter_le (fun x=>decide (u≤x)) b
  simp only[List.length_nil]at hu
  omega
noncomputable def bC (a b:Bool):Bool:=Bool.rec false b a
noncomputable def cD (M:T) (i r:Nat):Bool:=match M.get i with
 |some (.blk _ _ _ (el::_))=>match dV el r with
  |some (.int _ _)=>true
  |_=>false
 |_=>false
noncomputable def Sb1 (x0:Int):T:=(.node .leaf (some (.blk false 3 1 [[.sy (.int 0 x0)]])) .leaf)
def vk:XF:=.mk 11 .none (.seq (g_ 3 [p_ 0 3 (m_ 0),p_ 1 4 (k_ 3),p_ 2 2 (m_ 4)]) (g_ 6 [p_ 0 5 (m_ 0),p_ 1 6 (m_ 2),p_ 2 7 (m_ 2),p_ 3 8 (.cnv 4 (.t 7)),c_ 4 9 121 [.t 8],c_ 5 10 120 [.t 5,i_ 0,.t 6,.t 9]]))
theorem rz:aW Tryz.prog 89 vk=true:=by kernel_rfl
structure rf where
 x0:Int
structure FD where
 y0:Int
def uI (p:rf) (r:FD):Prop:=∀v:Int,[r.y0].count v=[p.x0].count v
noncomputable def zd (p:rf):IE:=([.sl 0 0 1 (.ex 1)],(Sb1 p.x0),1)
noncomputable def Ci (p:rf) (K:KE):Bool:=ah fun r:FD=>iP (uI p r) (K (.tup []) (Sb1 r.y0) 1) true
theorem ZU {p:rf} {K:KE} (hK:Ci p K=true) (r:FD) (h:uI p r):K (.tup []) (Sb1 r.y0) 1=true:=aA h (au hK r)
theorem aaQ (p:rf) (K:KE) (hK:Ci p K=true):(aY 1 (bg HE) bp 600 vk (zd p).1 (zd p).2.1 (zd p).2.2 K)=true:=by
 refine Eq.trans (b:=(K (.tup []) (Sb1 p.x0) 1)) (by kernel_rfl) ?_
 obtain⟨x0⟩:=p;dsimp only;repeat' (first|exact ZU hK ⟨_⟩ (by(try dsimp only at*);dsimp only[uI];intro v;simp only[List.count_cons,List.count_nil]<;>omega)|(exfalso;omega)|refine aH {..} (mI rfl ?_)|refine iI (fun _=> ?_) (fun _=> ?_))
noncomputable def Iq:aM:=bn (mF 0 1) (be zd Ci) (fun _ _ _ _=>false)
theorem QG:aX Tryz.prog 89 1 Iq:=aD (ck (f:=89) (k:=1) (ay Gx) rz (by rfl) (by rfl) aaQ) dT
noncomputable def Dg:=aZ HE 1 Iq 89 [(0,5)]
theorem Df:aE Tryz.prog Dg:=az QG Gx
noncomputable def WL (x0:Int) (x1:Int):T:=(.node .leaf (some (.blk false 3 1 [[.sy (.int 0 x0)],[.sy (.int 0 x1)]])) .leaf)
def RU:XF:=vk
theorem UU:aW Tryz.prog 89 RU=true:=rz
structure re where
 x0:Int
 x1:Int
structure FC where
 y0:Int
 y1:Int
def uH (p:re) (r:FC):Prop:=r.y0≤r.y1∧∀v:Int,[r.y0,r.y1].count v=[p.x0,p.x1].count v
noncomputable def zc (p:re):IE:=([.sl 0 0 2 (.ex 2)],(WL p.x0 p.x1),1)
noncomputable def Ch (p:re) (K:KE):Bool:=ah fun r:FC=>iP (uH p r) (K (.tup []) (WL r.y0 r.y1) 1) true
theorem ZT {p:re} {K:KE} (hK:Ch p K=true) (r:FC) (h:uH p r):K (.tup []) (WL r.y0 r.y1) 1=true:=aA h (au hK r)
theorem aaP (p:re) (K:KE) (hK:Ch p K=true):(aY 1 (bg Dg) bp 600 RU (zc p).1 (zc p).2.1 (zc p).2.2 K)=true:=by
 refine Eq.trans (b:=(ax fun p1:cM=>mP (([.sy (.int 0 p.x1),.sy (.int 0 p.x0)],.leaf,0)=cI p1) (iP (p1.x<p1.y) (K (.tup []) (WL p.x1 p.x0) 1) (K (.tup []) (WL p.x0 p.x1) 1)))) (by kernel_rfl) ?_
 obtain⟨x0,x1⟩:=p;dsimp only;repeat' (first|exact ZT hK ⟨_,_⟩ (by(try dsimp only at*);dsimp only[uH];refine⟨by omega,?_⟩;intro v;simp only[List.count_cons,List.count_nil]<;>omega)|(exfalso;omega)|refine aH {..} (mI rfl ?_)|refine iI (fun _=> ?_) (fun _=> ?_))
noncomputable def Ip:aM:=bn (mF 0 2) (be zc Ch) Iq
theorem QF:aX Tryz.prog 89 1 Ip:=aD (ck (f:=89) (k:=1) (ay Df) UU (by rfl) (by rfl) aaP) QG
noncomputable def De:=aZ Dg 1 Ip 89 [(0,5)]
theorem Dd:aE Tryz.prog De:=az QF Df
noncomputable def GR (x0:Int) (x1:Int) (x2:Int):T:=(.node .leaf (some (.blk false 3 1 [[.sy (.int 0 x0)],[.sy (.int 0 x1)],[.sy (.int 0 x2)]])) .leaf)
def RT:XF:=vk
theorem UT:aW Tryz.prog 89 RT=true:=rz
structure rc where
 x0:Int
 x1:Int
 x2:Int
structure FB where
 y0:Int
 y1:Int
 y2:Int
def uG (p:rc) (r:FB):Prop:=r.y0≤r.y1∧r.y1≤r.y2∧∀v:Int,[r.y0,r.y1,r.y2].count v=[p.x0,p.x1,p.x2].count v
noncomputable def zb (p:rc):IE:=([.sl 0 0 3 (.ex 3)],(GR p.x0 p.x1 p.x2),1)
noncomputable def Cg (p:rc) (K:KE):Bool:=ah fun r:FB=>iP (uG p r) (K (.tup []) (GR r.y0 r.y1 r.y2) 1) true
theorem ZS {p:rc} {K:KE} (hK:Cg p K=true) (r:FB) (h:uG p r):K (.tup []) (GR r.y0 r.y1 r.y2) 1=true:=aA h (au hK r)
theorem aaO (p:rc) (K:KE) (hK:Cg p K=true):(aY 1 (bg De) bp 600 RT (zb p).1 (zb p).2.1 (zb p).2.2 K)=true:=by
 refine Eq.trans (b:=(ax fun p1:cM=>mP (([.sy (.int 0 p.x1),.sy (.int 0 p.x0)],.leaf,0)=cI p1) (iP (p1.x<p1.y) (ax fun p2:cM=>mP (([.sy (.int 0 p.x2),.sy (.int 0 p.x0)],.leaf,0)=cI p2) (iP (p2.x<p2.y) (ax fun p3:cM=>mP (([.sy (.int 0 p.x2),.sy (.int 0 p.x1)],.leaf,0)=cI p3) (iP (p3.x<p3.y) (K (.tup []) (GR p.x2 p.x1 p.x0) 1) (K (.tup []) (GR p.x1 p.x2 p.x0) 1))) (K (.tup []) (GR p.x1 p.x0 p.x2) 1))) (ax fun p4:cM=>mP (([.sy (.int 0 p.x2),.sy (.int 0 p.x1)],.leaf,0)=cI p4) (iP (p4.x<p4.y) (ax fun p5:cM=>mP (([.sy (.int 0 p.x2),.sy (.int 0 p.x0)],.leaf,0)=cI p5) (iP (p5.x<p5.y) (K (.tup []) (GR p.x2 p.x0 p.x1) 1) (K (.tup []) (GR p.x0 p.x2 p.x1) 1))) (K (.tup []) (GR p.x0 p.x1 p.x2) 1)))))) (by kernel_rfl) ?_
 obtain⟨x0,x1,x2⟩:=p;dsimp only;repeat' (first|exact ZS hK ⟨_,_,_⟩ (by(try dsimp only at*);dsimp only[uG];refine⟨by omega,by omega,?_⟩;intro v;simp only[List.count_cons,List.count_nil]<;>omega)|(exfalso;omega)|refine aH {..} (mI rfl ?_)|refine iI (fun _=> ?_) (fun _=> ?_))
noncomputable def Io:aM:=bn (mF 0 3) (be zb Cg) Ip
theorem QE:aX Tryz.prog 89 1 Io:=aD (ck (f:=89) (k:=1) (ay Dd) UT (by rfl) (by rfl) aaO) QF
noncomputable def Dc:=aZ De 1 Io 89 [(0,5)]
theorem Db:aE Tryz.prog Dc:=az QE Dd
noncomputable def iy (x0:Int) (x1:Int) (x2:Int) (x3:Int):T:=(.node .leaf (some (.blk false 3 1 [[.sy (.int 0 x0)],[.sy (.int 0 x1)],[.sy (.int 0 x2)],[.sy (.int 0 x3)]])) .leaf)
def RS:XF:=vk
theorem US:aW Tryz.prog 89 RS=true:=rz
structure rb where
 x0:Int
 x1:Int
 x2:Int
 x3:Int
structure FA where
 y0:Int
 y1:Int
 y2:Int
 y3:Int
def uF (p:rb) (r:FA):Prop:=r.y0≤r.y1∧r.y1≤r.y2∧r.y2≤r.y3∧∀v:Int,[r.y0,r.y1,r.y2,r.y3].count v=[p.x0,p.x1,p.x2,p.x3].count v
noncomputable def za (p:rb):IE:=([.sl 0 0 4 (.ex 4)],(iy p.x0 p.x1 p.x2 p.x3),1)
noncomputable def Cf (p:rb) (K:KE):Bool:=ah fun r:FA=>iP (uF p r) (K (.tup []) (iy r.y0 r.y1 r.y2 r.y3) 1) true
theorem ZR {p:rb} {K:KE} (hK:Cf p K=true) (r:FA) (h:uF p r):K (.tup []) (iy r.y0 r.y1 r.y2 r.y3) 1=true:=aA h (au hK r)
theorem aaN (p:rb) (K:KE) (hK:Cf p K=true):(aY 1 (bg Dc) bp 600 RS (za p).1 (za p).2.1 (za p).2.2 K)=true:=by
 refine Eq.trans (b:=(ax fun p1:cM=>mP (([.sy (.int 0 p.x1),.sy (.int 0 p.x0)],.leaf,0)=cI p1) (iP (p1.x<p1.y) (ax fun p2:cM=>mP (([.sy (.int 0 p.x2),.sy (.int 0 p.x0)],.leaf,0)=cI p2) (iP (p2.x<p2.y) (ax fun p3:cM=>mP (([.sy (.int 0 p.x2),.sy (.int 0 p.x1)],.leaf,0)=cI p3) (iP (p3.x<p3.y) (ax fun p4:cM=>mP (([.sy (.int 0 p.x3),.sy (.int 0 p.x0)],.leaf,0)=cI p4) (iP (p4.x<p4.y) (ax fun p5:cM=>mP (([.sy (.int 0 p.x3),.sy (.int 0 p.x1)],.leaf,0)=cI p5) (iP (p5.x<p5.y) (ax fun p6:cM=>mP (([.sy (.int 0 p.x3),.sy (.int 0 p.x2)],.leaf,0)=cI p6) (iP (p6.x<p6.y) (K (.tup []) (iy p.x3 p.x2 p.x1 p.x0) 1) (K (.tup []) (iy p.x2 p.x3 p.x1 p.x0) 1))) (K (.tup []) (iy p.x2 p.x1 p.x3 p.x0) 1))) (K (.tup []) (iy p.x2 p.x1 p.x0 p.x3) 1))) (ax fun p7:cM=>mP (([.sy (.int 0 p.x3),.sy (.int 0 p.x0)],.leaf,0)=cI p7) (iP (p7.x<p7.y) (ax fun p8:cM=>mP (([.sy (.int 0 p.x3),.sy (.int 0 p.x2)],.leaf,0)=cI p8) (iP (p8.x<p8.y) (ax fun p9:cM=>mP (([.sy (.int 0 p.x3),.sy (.int 0 p.x1)],.leaf,0)=cI p9) (iP (p9.x<p9.y) (K (.tup []) (iy p.x3 p.x1 p.x2 p.x0) 1) (K (.tup []) (iy p.x1 p.x3 p.x2 p.x0) 1))) (K (.tup []) (iy p.x1 p.x2 p.x3 p.x0) 1))) (K (.tup []) (iy p.x1 p.x2 p.x0 p.x3) 1))))) (ax fun p10:cM=>mP (([.sy (.int 0 p.x3),.sy (.int 0 p.x2)],.leaf,0)=cI p10) (iP (p10.x<p10.y) (ax fun p11:cM=>mP (([.sy (.int 0 p.x3),.sy (.int 0 p.x0)],.leaf,0)=cI p11) (iP (p11.x<p11.y) (ax fun p12:cM=>mP (([.sy (.int 0 p.x3),.sy (.int 0 p.x1)],.leaf,0)=cI p12) (iP (p12.x<p12.y) (K (.tup []) (iy p.x3 p.x1 p.x0 p.x2) 1) (K (.tup []) (iy p.x1 p.x3 p.x0 p.x2) 1))) (K (.tup []) (iy p.x1 p.x0 p.x3 p.x2) 1))) (K (.tup []) (iy p.x1 p.x0 p.x2 p.x3) 1))))) (ax fun p13:cM=>mP (([.sy (.int 0 p.x2),.sy (.int 0 p.x1)],.leaf,0)=cI p13) (iP (p13.x<p13.y) (ax fun p14:cM=>mP (([.sy (.int 0 p.x2),.sy (.int 0 p.x0)],.leaf,0)=cI p14) (iP (p14.x<p14.y) (ax fun p15:cM=>mP (([.sy (.int 0 p.x3),.sy (.int 0 p.x1)],.leaf,0)=cI p15) (iP (p15.x<p15.y) (ax fun p16:cM=>mP (([.sy (.int 0 p.x3),.sy (.int 0 p.x0)],.leaf,0)=cI p16) (iP (p16.x<p16.y) (ax fun p17:cM=>mP (([.sy (.int 0 p.x3),.sy (.int 0 p.x2)],.leaf,0)=cI p17) (iP (p17.x<p17.y) (K (.tup []) (iy p.x3 p.x2 p.x0 p.x1) 1) (K (.tup []) (iy p.x2 p.x3 p.x0 p.x1) 1))) (K (.tup []) (iy p.x2 p.x0 p.x3 p.x1) 1))) (K (.tup []) (iy p.x2 p.x0 p.x1 p.x3) 1))) (ax fun p18:cM=>mP (([.sy (.int 0 p.x3),.sy (.int 0 p.x1)],.leaf,0)=cI p18) (iP (p18.x<p18.y) (ax fun p19:cM=>mP (([.sy (.int 0 p.x3),.sy (.int 0 p.x2)],.leaf,0)=cI p19) (iP (p19.x<p19.y) (ax fun p20:cM=>mP (([.sy (.int 0 p.x3),.sy (.int 0 p.x0)],.leaf,0)=cI p20) (iP (p20.x<p20.y) (K (.tup []) (iy p.x3 p.x0 p.x2 p.x1) 1) (K (.tup []) (iy p.x0 p.x3 p.x2 p.x1) 1))) (K (.tup []) (iy p.x0 p.x2 p.x3 p.x1) 1))) (K (.tup []) (iy p.x0 p.x2 p.x1 p.x3) 1))))) (ax fun p21:cM=>mP (([.sy (.int 0 p.x3),.sy (.int 0 p.x2)],.leaf,0)=cI p21) (iP (p21.x<p21.y) (ax fun p22:cM=>mP (([.sy (.int 0 p.x3),.sy (.int 0 p.x1)],.leaf,0)=cI p22) (iP (p22.x<p22.y) (ax fun p23:cM=>mP (([.sy (.int 0 p.x3),.sy (.int 0 p.x0)],.leaf,0)=cI p23) (iP (p23.x<p23.y) (K (.tup []) (iy p.x3 p.x0 p.x1 p.x2) 1) (K (.tup []) (iy p.x0 p.x3 p.x1 p.x2) 1))) (K (.tup []) (iy p.x0 p.x1 p.x3 p.x2) 1))) (K (.tup []) (iy p.x0 p.x1 p.x2 p.x3) 1)))))))) (by kernel_rfl) ?_
 obtain⟨x0,x1,x2,x3⟩:=p;dsimp only;repeat' (first|exact ZR hK ⟨_,_,_,_⟩ (by(try dsimp only at*);dsimp only[uF];refine⟨by omega,by omega,by omega,?_⟩;intro v;simp only[List.count_cons,List.count_nil]<;>omega)|(exfalso;omega)|refine aH {..} (mI rfl ?_)|refine iI (fun _=> ?_) (fun _=> ?_))
noncomputable def Tf:aM:=bn (mF 0 4) (be za Cf) Io
theorem abM:aX Tryz.prog 89 1 Tf:=aD (ck (f:=89) (k:=1) (ay Db) US (by rfl) (by rfl) aaN) QE
noncomputable def ww:=aZ Dc 1 Tf 89 [(0,5)]
theorem uX:aE Tryz.prog ww:=az abM Db
def yO:XC:=(.aft (.seq (g_ 5 [p_ 0 24 (m_ 0),p_ 1 25 (n_ 24),p_ 2 26 (f_ 9 25),r_ 3 27 (l_ 26),e_ 4 28 (.rng (.t 27))]) (.block 2 (.loop [0,2,4,28,29,30,31,32,33,34,35,36,37,39,40,41,42,43,44,45,46,47,48,49,50,51,52,53,54,55,56,57] (.seq (g_ 2 [e_ 0 29 (.nxt (.t 28)),p_ 1 30 (.ext 0 (.t 29))]) (.seq (.cond (.t 30) .skip (.exit 2)) (.block 3 (.seq (g_ 3 [r_ 0 31 (.ent (.t 28)),p_ 1 32 (.ext 1 (.t 31)),p_ 2 4 (m_ 32)]) (g_ 5 [p_ 0 33 (m_ 2),p_ 1 34 (m_ 4),e_ 2 35 (.bsl 3 1 1 [.int 0 (.ofNat 0)] [(0,1)] [.t 34]),e_ 3 36 (.app 3 1 8 (.t 33) (.t 35)),p_ 4 2 (m_ 36)])))))))) [(0,[.can 1 [0,2]])])
def KO:XF:=.mk 58 .none (.seq (h_ 14 [p_ 0 5 (m_ 0),p_ 1 6 (n_ 5),p_ 2 7 (f_ 9 6),r_ 3 8 (l_ 7),p_ 4 9 (m_ 0),p_ 5 10 (n_ 9),p_ 6 11 (f_ 3 10),r_ 7 12 (.ld true 2 (.t 11)),p_ 8 13 (m_ 0),p_ 9 14 (n_ 13),p_ 10 15 (f_ 5 14),r_ 11 16 (l_ 15),p_ 12 17 (k_ 16),bm 13 (.mu 2 (.st [(0,1,false,.int),(1,1,false,.int)]) (.t 8) (.t 12) (.t 17))]) (.seq (g_ 7 [p_ 0 18 (m_ 0),p_ 1 19 (n_ 18),p_ 2 20 (f_ 9 19),r_ 3 21 (l_ 20),r_ 4 22 (.mlen (.t 21)),e_ 5 23 (.mks 3 1 8 [.int 0 (.ofNat 0)] (i_ 0) (.t 22)),p_ 6 2 (m_ 23)]) (.seq (.pre [.can 1 [0,2]] (.spc 0 yO)) (.seq (g_ 2 [p_ 0 37 (m_ 2),c_ 1 38 89 [.t 37]]) (h_ 20 [p_ 0 39 (m_ 0),p_ 1 40 (m_ 0),p_ 2 41 (n_ 40),p_ 3 42 (f_ 7 41),r_ 4 43 (l_ 42),p_ 5 44 (m_ 2),p_ 6 45 (m_ 2),p_ 7 46 (k_ 45),p_ 8 47 (m_ 0),p_ 9 48 (n_ 47),p_ 10 49 (f_ 0 48),r_ 11 50 (.ld true 3 (.t 49)),c_ 12 51 90 [.t 50],a_ 4 43 (l_ 42),p_ 13 52 (.bin 0 1 (.t 46) (.t 51)),p_ 14 53 (.ixs 1 (.t 44) (.t 52)),r_ 15 54 (l_ 53),p_ 16 55 (.mx true (.t 43) (.t 54)),p_ 17 56 (n_ 39),p_ 18 57 (f_ 7 56),bm 19 (.st 1 (.t 57) (.t 55))])))))
theorem Ps:aW Tryz.prog 68 KO=true:=by kernel_rfl
structure tx where
 l:List Ke
 com:Int
 c0:Int
structure PK where
 v0:Int
def BT (p:tx) (r:PK):Prop:=∀v:Int,[r.v0].count v=[p.c0].count v
noncomputable def wR (p:tx):IL:=((.cons 2 (.sl 1 0 0 (.ex 1)) (.cons 0 (.ptr 0 0) .nil)),(.node (.node (.node .leaf (some (.prow 68 18 Ke p.l ai)) .leaf) (some (.blk false 3 1 [[cE]])) .leaf) (some (bR 1 2 3 4 aa p.l.length p.com)) (.node (.node .leaf (some (.map [(.agg bu,.sy (.int 0 p.c0),0)] 1)) .leaf) (some (jb)) .leaf)),5)
noncomputable def LL (p:tx) (K:KC):Bool:=ah fun r:PK=>iP (BT p r) (K 0 (.cons 2 (.sl 1 0 1 (.ex 1)) (.cons 0 (.ptr 0 0) .nil)) (acG p.l p.com p.c0 r.v0) 5) true
theorem afB {p:tx} {K:KC} (hK:LL p K=true) (r:PK) (h:BT p r):K 0 (.cons 2 (.sl 1 0 1 (.ex 1)) (.cons 0 (.ptr 0 0) .nil)) (acG p.l p.com p.c0 r.v0) 5=true:=aA h (au hK r)
noncomputable def aid (p:tx) (K:KC):Bool:=LL p K
noncomputable def tf:gB:=fun j S M nx K=>(Bool.rec (false) (ax fun p:tx=>ac (aF ((S,M,nx)=wR p)) (aid p K)) (Nat.beq j 0))
theorem aga (p:tx) (K:KC) (hK:LL p K=true):(cC (bg ww) tf 600 yO (wR p).1 (wR p).2.1 (wR p).2.2 K)=true:=by
 refine Eq.trans (b:=(ac (K 0 (.cons 2 (.sl 1 0 1 (.ex 1)) (.cons 0 (.ptr 0 0) .nil)) (acG p.l p.com p.c0 p.c0) 5) (true))) (by kernel_rfl) ?_
 obtain⟨l,com,c0⟩:=p;dsimp only;repeat' (first|exact afB hK ⟨_⟩ (by dsimp only[BT];intro v;simp only[List.count_cons,List.count_nil]<;>omega)|refine aG ?_ ?_|refine mI rfl ?_|exact rfl)
theorem aiS:dp Tryz.prog 58 1 tf false 0 yO:=by
 refine mO (lf:=600) bD (ay uX) (by rfl) (fun b j x h=>by cases h) (fun S M nx K h=> ?_)
 obtain⟨p,h⟩:=bJ h
 obtain⟨e,h9⟩:=ae h
 clear h
 have e1:S=(wR p).1:=congrArg Prod.fst e
 have e2:M=(wR p).2.1:=congrArg (fun x=>x.2.1) e
 have e3:nx=(wR p).2.2:=congrArg (fun x=>x.2.2) e
 subst e1;subst e2;subst e3
 exact aga p K h9
structure lI where
 l:List Ke
 com:Int
 c0:Int
structure wN where
 com:Int
def pj (p:lI) (r:wN):Prop:=comR 1 p.com r.com [(p.l.length:Int)]
noncomputable def sK (p:lI):IE:=([.ptr 0 0],(sU p.l p.com p.c0),4)
noncomputable def xw (p:lI) (K:KE):Bool:=ah fun r:wN=>iP (pj p r) (K (.tup []) (sU p.l r.com (p.l.length:Int)) 4) true
theorem Vx {p:lI} {K:KE} (hK:xw p K=true) (r:wN) (h:pj p r):K (.tup []) (sU p.l r.com (p.l.length:Int)) 4=true:=aA h (au hK r)
theorem Xm (p:lI) (K:KE) (hK:xw p K=true):(aY 1 (bg ww) tf 600 KO (sK p).1 (sK p).2.1 (sK p).2.2 K)=true:=by
 refine Eq.trans (b:=(ax fun p1:tx=>mP (((.cons 2 (.sl 1 0 0 (.ex 1)) (.cons 0 (.ptr 0 0) .nil)),(.node (.node (.node .leaf (some (.prow 68 18 Ke p.l ai)) .leaf) (some (.blk false 3 1 [[cE]])) .leaf) (some (bR 1 2 3 4 aa p.l.length p.com)) (.node (.node .leaf (some (.map [(.agg bu,.sy (.int 0 (p.l.length:Int)),0)] 1)) .leaf) (some (jb)) .leaf)),5)=wR p1) (ah fun r1:PK=>iP (BT p1 r1) (ax fun p2:rf=>mP (([.sl 0 0 1 (.ex 1)],(Sb1 r1.v0),1)=zd p2) (ah fun r2:FD=>iP (uI p2 r2) (mP (((.int 0 p1.com):SY)=(.int 0 p1.com)) (K (.tup []) (sU p1.l (max p1.com r2.y0) p1.c0) 4)) true)) true))) (by kernel_rfl) ?_
 refine gE (⟨p.l,p.com,(p.l.length:Int)⟩:tx) rfl fun r1 hi1=> ?_
 dsimp only[BT]at hi1
 refine gE (⟨r1.v0⟩:rf) rfl fun r2 hi2=> ?_
 dsimp only[uI]at hi2
 refine aK ?_
 exact Vx hK ⟨max p.com r2.y0⟩ (by dsimp only[pj]<;>(have s0:=hi2;exact Fu (a:=[]) (b:=[]) (v:=r2.y0) rfl (fun w=>(s0 w).trans (hi1 w)) rfl (by intro x hx;simp only[List.mem_cons,List.not_mem_nil,or_false]at hx<;>omega) (by intro x hx;simp only[List.mem_cons,List.not_mem_nil,or_false]at hx<;>omega)))
noncomputable def Bl:aM:=bn (mF 1 1) (be sK xw) (fun _ _ _ _=>false)
theorem Kh:aX Tryz.prog 68 1 Bl:=aD (cS (f:=68) (k:=1) (lp:=tf) (lf:=600) bD (ay uX) Ps (by rfl) (fun b j x h=>(bZ aiS (fun h=>(by cases h)) h)) fun p K h=>Xm p K h) dT
noncomputable def rv:=aZ ww 1 Bl 68 [(0,4)]
theorem qt:aE Tryz.prog rv:=az Kh uX
def TG:XC:=yO
def KN:XF:=.mk 58 .none (.seq (h_ 14 [p_ 0 5 (m_ 0),p_ 1 6 (n_ 5),p_ 2 7 (f_ 9 6),r_ 3 8 (l_ 7),p_ 4 9 (m_ 0),p_ 5 10 (n_ 9),p_ 6 11 (f_ 3 10),r_ 7 12 (.ld true 2 (.t 11)),p_ 8 13 (m_ 0),p_ 9 14 (n_ 13),p_ 10 15 (f_ 5 14),r_ 11 16 (l_ 15),p_ 12 17 (k_ 16),bm 13 (.mu 2 (.st [(0,1,false,.int),(1,1,false,.int)]) (.t 8) (.t 12) (.t 17))]) (.seq (g_ 7 [p_ 0 18 (m_ 0),p_ 1 19 (n_ 18),p_ 2 20 (f_ 9 19),r_ 3 21 (l_ 20),r_ 4 22 (.mlen (.t 21)),e_ 5 23 (.mks 3 1 8 [.int 0 (.ofNat 0)] (i_ 0) (.t 22)),p_ 6 2 (m_ 23)]) (.seq (.pre [.can 1 [0,2]] (.spc 0 TG)) (.seq (g_ 2 [p_ 0 37 (m_ 2),c_ 1 38 89 [.t 37]]) (h_ 20 [p_ 0 39 (m_ 0),p_ 1 40 (m_ 0),p_ 2 41 (n_ 40),p_ 3 42 (f_ 7 41),r_ 4 43 (l_ 42),p_ 5 44 (m_ 2),p_ 6 45 (m_ 2),p_ 7 46 (k_ 45),p_ 8 47 (m_ 0),p_ 9 48 (n_ 47),p_ 10 49 (f_ 0 48),r_ 11 50 (.ld true 3 (.t 49)),c_ 12 51 90 [.t 50],a_ 4 43 (l_ 42),p_ 13 52 (.bin 0 1 (.t 46) (.t 51)),p_ 14 53 (.ixs 1 (.t 44) (.t 52)),r_ 15 54 (l_ 53),p_ 16 55 (.mx true (.t 43) (.t 54)),p_ 17 56 (n_ 39),p_ 18 57 (f_ 7 56),bm 19 (.st 1 (.t 57) (.t 55))])))))
theorem Pr:aW Tryz.prog 68 KN=true:=by kernel_rfl
structure tw where
 l:List Ke
 com:Int
 c0:Int
 c1:Int
structure PJ where
 v0:Int
 v1:Int
def BS (p:tw) (r:PJ):Prop:=∀v:Int,[r.v0,r.v1].count v=[p.c0,p.c1].count v
noncomputable def wQ (p:tw):IL:=((.cons 2 (.sl 1 0 0 (.ex 2)) (.cons 0 (.ptr 0 0) .nil)),(.node (.node (.node .leaf (some (.prow 68 18 Ke p.l ai)) .leaf) (some (.blk false 3 1 [[cE],[cE]])) .leaf) (some (bR 2 2 3 4 aa p.l.length p.com)) (.node (.node .leaf (some (.map [(.agg bu,.sy (.int 0 p.c0),0),(.agg bK,.sy (.int 0 p.c1),1)] 2)) .leaf) (some (bN)) .leaf)),5)
noncomputable def LK (p:tw) (K:KC):Bool:=ah fun r:PJ=>iP (BS p r) (K 0 (.cons 2 (.sl 1 0 2 (.ex 2)) (.cons 0 (.ptr 0 0) .nil)) (YB p.l p.com p.c0 p.c1 r.v0 r.v1) 5) true
theorem afA {p:tw} {K:KC} (hK:LK p K=true) (r:PJ) (h:BS p r):K 0 (.cons 2 (.sl 1 0 2 (.ex 2)) (.cons 0 (.ptr 0 0) .nil)) (YB p.l p.com p.c0 p.c1 r.v0 r.v1) 5=true:=aA h (au hK r)
noncomputable def aic (p:tw) (K:KC):Bool:=LK p K
noncomputable def te:gB:=fun j S M nx K=>(Bool.rec (false) (ax fun p:tw=>ac (aF ((S,M,nx)=wQ p)) (aic p K)) (Nat.beq j 0))
theorem af9 (p:tw) (K:KC) (hK:LK p K=true):(cC (bg rv) te 600 TG (wQ p).1 (wQ p).2.1 (wQ p).2.2 K)=true:=by
 refine Eq.trans (b:=(ac (ac (K 0 (.cons 2 (.sl 1 0 2 (.ex 2)) (.cons 0 (.ptr 0 0) .nil)) (YB p.l p.com p.c0 p.c1 p.c0 p.c1) 5) (true)) (ac (ac (K 0 (.cons 2 (.sl 1 0 2 (.ex 2)) (.cons 0 (.ptr 0 0) .nil)) (YB p.l p.com p.c0 p.c1 p.c1 p.c0) 5) (true)) (true)))) (by kernel_rfl) ?_
 obtain⟨l,com,c0,c1⟩:=p;dsimp only;repeat' (first|exact afA hK ⟨_,_⟩ (by dsimp only[BS];intro v;simp only[List.count_cons,List.count_nil]<;>omega)|refine aG ?_ ?_|refine mI rfl ?_|exact rfl)
theorem aiR:dp Tryz.prog 58 1 te false 0 TG:=by
 refine mO (lf:=600) bD (ay qt) (by rfl) (fun b j x h=>by cases h) (fun S M nx K h=> ?_)
 obtain⟨p,h⟩:=bJ h
 obtain⟨e,h9⟩:=ae h
 clear h
 have e1:S=(wQ p).1:=congrArg Prod.fst e
 have e2:M=(wQ p).2.1:=congrArg (fun x=>x.2.1) e
 have e3:nx=(wQ p).2.2:=congrArg (fun x=>x.2.2) e
 subst e1;subst e2;subst e3
 exact af9 p K h9
structure fV where
 l:List Ke
 com:Int
 c0:Int
 c1:Int
structure oC where
 com:Int
def gV (p:fV) (r:oC):Prop:=comR 2 p.com r.com [(p.l.length:Int),p.c1]
noncomputable def lG (p:fV):IE:=([.ptr 0 0],(ir p.l p.com p.c0 p.c1),4)
noncomputable def xv (p:fV) (K:KE):Bool:=ah fun r:oC=>iP (gV p r) (K (.tup []) (ir p.l r.com (p.l.length:Int) p.c1) 4) true
theorem Vw {p:fV} {K:KE} (hK:xv p K=true) (r:oC) (h:gV p r):K (.tup []) (ir p.l r.com (p.l.length:Int) p.c1) 4=true:=aA h (au hK r)
theorem Xl (p:fV) (K:KE) (hK:xv p K=true):(aY 1 (bg rv) te 600 KN (lG p).1 (lG p).2.1 (lG p).2.2 K)=true:=by
 refine Eq.trans (b:=(ax fun p1:tw=>mP (((.cons 2 (.sl 1 0 0 (.ex 2)) (.cons 0 (.ptr 0 0) .nil)),(.node (.node (.node .leaf (some (.prow 68 18 Ke p.l ai)) .leaf) (some (.blk false 3 1 [[cE],[cE]])) .leaf) (some (bR 2 2 3 4 aa p.l.length p.com)) (.node (.node .leaf (some (.map [(.agg bu,.sy (.int 0 (p.l.length:Int)),0),(.agg bK,.sy (.int 0 p.c1),1)] 2)) .leaf) (some (bN)) .leaf)),5)=wQ p1) (ah fun r1:PJ=>iP (BS p1 r1) (ax fun p2:re=>mP (([.sl 0 0 2 (.ex 2)],(WL r1.v0 r1.v1),1)=zc p2) (ah fun r2:FC=>iP (uH p2 r2) (mP (((.int 0 p1.com):SY)=(.int 0 p1.com)) (K (.tup []) (ir p1.l (max p1.com r2.y0) p1.c0 p1.c1) 4)) true)) true))) (by kernel_rfl) ?_
 refine gE (⟨p.l,p.com,(p.l.length:Int),p.c1⟩:tw) rfl fun r1 hi1=> ?_
 dsimp only[BS]at hi1
 refine gE (⟨r1.v0,r1.v1⟩:re) rfl fun r2 hi2=> ?_
 dsimp only[uH]at hi2
 refine aK ?_
 exact Vw hK ⟨max p.com r2.y0⟩ (by dsimp only[gV]<;>(obtain⟨s0,s1⟩:=hi2;exact Fu (a:=[]) (b:=[r2.y1]) (v:=r2.y0) rfl (fun w=>(s1 w).trans (hi1 w)) rfl (by intro x hx;simp only[List.mem_cons,List.not_mem_nil,or_false]at hx<;>omega) (by intro x hx;simp only[List.mem_cons,List.not_mem_nil,or_false]at hx<;>omega)))
noncomputable def Bk:aM:=bn (mF 1 2) (be lG xv) Bl
theorem Kg:aX Tryz.prog 68 1 Bk:=aD (cS (f:=68) (k:=1) (lp:=te) (lf:=600) bD (ay qt) Pr (by rfl) (fun b j x h=>(bZ aiR (fun h=>(by cases h)) h)) fun p K h=>Xl p K h) Kh
noncomputable def ru:=aZ rv 1 Bk 68 [(0,4)]
theorem qq:aE Tryz.prog ru:=az Kg qt
def TF:XC:=yO
def KM:XF:=.mk 58 .none (.seq (h_ 14 [p_ 0 5 (m_ 0),p_ 1 6 (n_ 5),p_ 2 7 (f_ 9 6),r_ 3 8 (l_ 7),p_ 4 9 (m_ 0),p_ 5 10 (n_ 9),p_ 6 11 (f_ 3 10),r_ 7 12 (.ld true 2 (.t 11)),p_ 8 13 (m_ 0),p_ 9 14 (n_ 13),p_ 10 15 (f_ 5 14),r_ 11 16 (l_ 15),p_ 12 17 (k_ 16),bm 13 (.mu 2 (.st [(0,1,false,.int),(1,1,false,.int)]) (.t 8) (.t 12) (.t 17))]) (.seq (g_ 7 [p_ 0 18 (m_ 0),p_ 1 19 (n_ 18),p_ 2 20 (f_ 9 19),r_ 3 21 (l_ 20),r_ 4 22 (.mlen (.t 21)),e_ 5 23 (.mks 3 1 8 [.int 0 (.ofNat 0)] (i_ 0) (.t 22)),p_ 6 2 (m_ 23)]) (.seq (.pre [.can 1 [0,2]] (.spc 0 TF)) (.seq (g_ 2 [p_ 0 37 (m_ 2),c_ 1 38 89 [.t 37]]) (h_ 20 [p_ 0 39 (m_ 0),p_ 1 40 (m_ 0),p_ 2 41 (n_ 40),p_ 3 42 (f_ 7 41),r_ 4 43 (l_ 42),p_ 5 44 (m_ 2),p_ 6 45 (m_ 2),p_ 7 46 (k_ 45),p_ 8 47 (m_ 0),p_ 9 48 (n_ 47),p_ 10 49 (f_ 0 48),r_ 11 50 (.ld true 3 (.t 49)),c_ 12 51 90 [.t 50],a_ 4 43 (l_ 42),p_ 13 52 (.bin 0 1 (.t 46) (.t 51)),p_ 14 53 (.ixs 1 (.t 44) (.t 52)),r_ 15 54 (l_ 53),p_ 16 55 (.mx true (.t 43) (.t 54)),p_ 17 56 (n_ 39),p_ 18 57 (f_ 7 56),bm 19 (.st 1 (.t 57) (.t 55))])))))
theorem Pq:aW Tryz.prog 68 KM=true:=by kernel_rfl
structure tv where
 l:List Ke
 com:Int
 c0:Int
 c1:Int
 c2:Int
structure PI where
 v0:Int
 v1:Int
 v2:Int
def BR (p:tv) (r:PI):Prop:=∀v:Int,[r.v0,r.v1,r.v2].count v=[p.c0,p.c1,p.c2].count v
noncomputable def wP (p:tv):IL:=((.cons 2 (.sl 1 0 0 (.ex 3)) (.cons 0 (.ptr 0 0) .nil)),(.node (.node (.node .leaf (some (.prow 68 18 Ke p.l ai)) .leaf) (some (.blk false 3 1 [[cE],[cE],[cE]])) .leaf) (some (bR 3 2 3 4 aa p.l.length p.com)) (.node (.node .leaf (some (.map [(.agg bu,.sy (.int 0 p.c0),0),(.agg bK,.sy (.int 0 p.c1),1),(.agg cQ,.sy (.int 0 p.c2),2)] 3)) .leaf) (some (bE)) .leaf)),5)
noncomputable def LJ (p:tv) (K:KC):Bool:=ah fun r:PI=>iP (BR p r) (K 0 (.cons 2 (.sl 1 0 3 (.ex 3)) (.cons 0 (.ptr 0 0) .nil)) (Ew p.l p.com p.c0 p.c1 p.c2 r.v0 r.v1 r.v2) 5) true
theorem afz {p:tv} {K:KC} (hK:LJ p K=true) (r:PI) (h:BR p r):K 0 (.cons 2 (.sl 1 0 3 (.ex 3)) (.cons 0 (.ptr 0 0) .nil)) (Ew p.l p.com p.c0 p.c1 p.c2 r.v0 r.v1 r.v2) 5=true:=aA h (au hK r)
noncomputable def aib (p:tv) (K:KC):Bool:=LJ p K
noncomputable def td:gB:=fun j S M nx K=>(Bool.rec (false) (ax fun p:tv=>ac (aF ((S,M,nx)=wP p)) (aib p K)) (Nat.beq j 0))
theorem af8 (p:tv) (K:KC) (hK:LJ p K=true):(cC (bg ru) td 600 TF (wP p).1 (wP p).2.1 (wP p).2.2 K)=true:=by
 refine Eq.trans (b:=(ac (ac (ac (K 0 (.cons 2 (.sl 1 0 3 (.ex 3)) (.cons 0 (.ptr 0 0) .nil)) (Ew p.l p.com p.c0 p.c1 p.c2 p.c0 p.c1 p.c2) 5) (true)) (ac (ac (K 0 (.cons 2 (.sl 1 0 3 (.ex 3)) (.cons 0 (.ptr 0 0) .nil)) (Ew p.l p.com p.c0 p.c1 p.c2 p.c0 p.c2 p.c1) 5) (true)) (true))) (ac (ac (ac (K 0 (.cons 2 (.sl 1 0 3 (.ex 3)) (.cons 0 (.ptr 0 0) .nil)) (Ew p.l p.com p.c0 p.c1 p.c2 p.c1 p.c0 p.c2) 5) (true)) (ac (ac (K 0 (.cons 2 (.sl 1 0 3 (.ex 3)) (.cons 0 (.ptr 0 0) .nil)) (Ew p.l p.com p.c0 p.c1 p.c2 p.c1 p.c2 p.c0) 5) (true)) (true))) (ac (ac (ac (K 0 (.cons 2 (.sl 1 0 3 (.ex 3)) (.cons 0 (.ptr 0 0) .nil)) (Ew p.l p.com p.c0 p.c1 p.c2 p.c2 p.c0 p.c1) 5) (true)) (ac (ac (K 0 (.cons 2 (.sl 1 0 3 (.ex 3)) (.cons 0 (.ptr 0 0) .nil)) (Ew p.l p.com p.c0 p.c1 p.c2 p.c2 p.c1 p.c0) 5) (true)) (true))) (true))))) (by kernel_rfl) ?_
 obtain⟨l,com,c0,c1,c2⟩:=p;dsimp only;repeat' (first|exact afz hK ⟨_,_,_⟩ (by dsimp only[BR];intro v;simp only[List.count_cons,List.count_nil]<;>omega)|refine aG ?_ ?_|refine mI rfl ?_|exact rfl)
theorem aiQ:dp Tryz.prog 58 1 td false 0 TF:=by
 refine mO (lf:=600) bD (ay qq) (by rfl) (fun b j x h=>by cases h) (fun S M nx K h=> ?_)
 obtain⟨p,h⟩:=bJ h
 obtain⟨e,h9⟩:=ae h
 clear h
 have e1:S=(wP p).1:=congrArg Prod.fst e
 have e2:M=(wP p).2.1:=congrArg (fun x=>x.2.1) e
 have e3:nx=(wP p).2.2:=congrArg (fun x=>x.2.2) e
 subst e1;subst e2;subst e3
 exact af8 p K h9
structure eP where
 l:List Ke
 com:Int
 c0:Int
 c1:Int
 c2:Int
structure lv where
 com:Int
def fj (p:eP) (r:lv):Prop:=comR 2 p.com r.com [(p.l.length:Int),p.c1,p.c2]
noncomputable def je (p:eP):IE:=([.ptr 0 0],(gG p.l p.com p.c0 p.c1 p.c2),4)
noncomputable def xu (p:eP) (K:KE):Bool:=ah fun r:lv=>iP (fj p r) (K (.tup []) (gG p.l r.com (p.l.length:Int) p.c1 p.c2) 4) true
theorem Vv {p:eP} {K:KE} (hK:xu p K=true) (r:lv) (h:fj p r):K (.tup []) (gG p.l r.com (p.l.length:Int) p.c1 p.c2) 4=true:=aA h (au hK r)
theorem Xk (p:eP) (K:KE) (hK:xu p K=true):(aY 1 (bg ru) td 600 KM (je p).1 (je p).2.1 (je p).2.2 K)=true:=by
 refine Eq.trans (b:=(ax fun p1:tv=>mP (((.cons 2 (.sl 1 0 0 (.ex 3)) (.cons 0 (.ptr 0 0) .nil)),(.node (.node (.node .leaf (some (.prow 68 18 Ke p.l ai)) .leaf) (some (.blk false 3 1 [[cE],[cE],[cE]])) .leaf) (some (bR 3 2 3 4 aa p.l.length p.com)) (.node (.node .leaf (some (.map [(.agg bu,.sy (.int 0 (p.l.length:Int)),0),(.agg bK,.sy (.int 0 p.c1),1),(.agg cQ,.sy (.int 0 p.c2),2)] 3)) .leaf) (some (bE)) .leaf)),5)=wP p1) (ah fun r1:PI=>iP (BR p1 r1) (ax fun p2:rc=>mP (([.sl 0 0 3 (.ex 3)],(GR r1.v0 r1.v1 r1.v2),1)=zb p2) (ah fun r2:FB=>iP (uG p2 r2) (mP (((.int 0 p1.com):SY)=(.int 0 p1.com)) (K (.tup []) (gG p1.l (max p1.com r2.y1) p1.c0 p1.c1 p1.c2) 4)) true)) true))) (by kernel_rfl) ?_
 refine gE (⟨p.l,p.com,(p.l.length:Int),p.c1,p.c2⟩:tv) rfl fun r1 hi1=> ?_
 dsimp only[BR]at hi1
 refine gE (⟨r1.v0,r1.v1,r1.v2⟩:rc) rfl fun r2 hi2=> ?_
 dsimp only[uG]at hi2
 refine aK ?_
 exact Vv hK ⟨max p.com r2.y1⟩ (by dsimp only[fj]<;>(obtain⟨s0,s1,s2⟩:=hi2;exact Fu (a:=[r2.y0]) (b:=[r2.y2]) (v:=r2.y1) rfl (fun w=>(s2 w).trans (hi1 w)) rfl (by intro x hx;simp only[List.mem_cons,List.not_mem_nil,or_false]at hx<;>omega) (by intro x hx;simp only[List.mem_cons,List.not_mem_nil,or_false]at hx<;>omega)))
noncomputable def Bj:aM:=bn (mF 1 3) (be je xu) Bk
theorem Kf:aX Tryz.prog 68 1 Bj:=aD (cS (f:=68) (k:=1) (lp:=td) (lf:=600) bD (ay qq) Pq (by rfl) (fun b j x h=>(bZ aiQ (fun h=>(by cases h)) h)) fun p K h=>Xk p K h) Kg
noncomputable def rr:=aZ ru 1 Bj 68 [(0,4)]
theorem qp:aE Tryz.prog rr:=az Kf qq
def TE:XC:=yO
def KL:XF:=.mk 58 .none (.seq (h_ 14 [p_ 0 5 (m_ 0),p_ 1 6 (n_ 5),p_ 2 7 (f_ 9 6),r_ 3 8 (l_ 7),p_ 4 9 (m_ 0),p_ 5 10 (n_ 9),p_ 6 11 (f_ 3 10),r_ 7 12 (.ld true 2 (.t 11)),p_ 8 13 (m_ 0),p_ 9 14 (n_ 13),p_ 10 15 (f_ 5 14),r_ 11 16 (l_ 15),p_ 12 17 (k_ 16),bm 13 (.mu 2 (.st [(0,1,false,.int),(1,1,false,.int)]) (.t 8) (.t 12) (.t 17))]) (.seq (g_ 7 [p_ 0 18 (m_ 0),p_ 1 19 (n_ 18),p_ 2 20 (f_ 9 19),r_ 3 21 (l_ 20),r_ 4 22 (.mlen (.t 21)),e_ 5 23 (.mks 3 1 8 [.int 0 (.ofNat 0)] (i_ 0) (.t 22)),p_ 6 2 (m_ 23)]) (.seq (.pre [.can 1 [0,2]] (.spc 0 TE)) (.seq (g_ 2 [p_ 0 37 (m_ 2),c_ 1 38 89 [.t 37]]) (h_ 20 [p_ 0 39 (m_ 0),p_ 1 40 (m_ 0),p_ 2 41 (n_ 40),p_ 3 42 (f_ 7 41),r_ 4 43 (l_ 42),p_ 5 44 (m_ 2),p_ 6 45 (m_ 2),p_ 7 46 (k_ 45),p_ 8 47 (m_ 0),p_ 9 48 (n_ 47),p_ 10 49 (f_ 0 48),r_ 11 50 (.ld true 3 (.t 49)),c_ 12 51 90 [.t 50],a_ 4 43 (l_ 42),p_ 13 52 (.bin 0 1 (.t 46) (.t 51)),p_ 14 53 (.ixs 1 (.t 44) (.t 52)),r_ 15 54 (l_ 53),p_ 16 55 (.mx true (.t 43) (.t 54)),p_ 17 56 (n_ 39),p_ 18 57 (f_ 7 56),bm 19 (.st 1 (.t 57) (.t 55))])))))
theorem Pp:aW Tryz.prog 68 KL=true:=by kernel_rfl
structure tu where
 l:List Ke
 com:Int
 c0:Int
 c1:Int
 c2:Int
 c3:Int
structure PH where
 v0:Int
 v1:Int
 v2:Int
 v3:Int
def BQ (p:tu) (r:PH):Prop:=∀v:Int,[r.v0,r.v1,r.v2,r.v3].count v=[p.c0,p.c1,p.c2,p.c3].count v
noncomputable def wO (p:tu):IL:=((.cons 2 (.sl 1 0 0 (.ex 4)) (.cons 0 (.ptr 0 0) .nil)),(.node (.node (.node .leaf (some (.prow 68 18 Ke p.l ai)) .leaf) (some (.blk false 3 1 [[cE],[cE],[cE],[cE]])) .leaf) (some (bR 4 2 3 4 aa p.l.length p.com)) (.node (.node .leaf (some (.map [(.agg bu,.sy (.int 0 p.c0),0),(.agg bK,.sy (.int 0 p.c1),1),(.agg cQ,.sy (.int 0 p.c2),2),(.agg fx,.sy (.int 0 p.c3),3)] 4)) .leaf) (some (bw)) .leaf)),5)
noncomputable def LI (p:tu) (K:KC):Bool:=ah fun r:PH=>iP (BQ p r) (K 0 (.cons 2 (.sl 1 0 4 (.ex 4)) (.cons 0 (.ptr 0 0) .nil)) (fp p.l p.com p.c0 p.c1 p.c2 p.c3 r.v0 r.v1 r.v2 r.v3) 5) true
theorem afy {p:tu} {K:KC} (hK:LI p K=true) (r:PH) (h:BQ p r):K 0 (.cons 2 (.sl 1 0 4 (.ex 4)) (.cons 0 (.ptr 0 0) .nil)) (fp p.l p.com p.c0 p.c1 p.c2 p.c3 r.v0 r.v1 r.v2 r.v3) 5=true:=aA h (au hK r)
noncomputable def aia (p:tu) (K:KC):Bool:=LI p K
noncomputable def tc:gB:=fun j S M nx K=>(Bool.rec (false) (ax fun p:tu=>ac (aF ((S,M,nx)=wO p)) (aia p K)) (Nat.beq j 0))
theorem af7 (p:tu) (K:KC) (hK:LI p K=true):(cC (bg rr) tc 600 TE (wO p).1 (wO p).2.1 (wO p).2.2 K)=true:=by
 refine Eq.trans (b:=(ac (ac (ac (ac (K 0 (.cons 2 (.sl 1 0 4 (.ex 4)) (.cons 0 (.ptr 0 0) .nil)) (fp p.l p.com p.c0 p.c1 p.c2 p.c3 p.c0 p.c1 p.c2 p.c3) 5) (true)) (ac (ac (K 0 (.cons 2 (.sl 1 0 4 (.ex 4)) (.cons 0 (.ptr 0 0) .nil)) (fp p.l p.com p.c0 p.c1 p.c2 p.c3 p.c0 p.c1 p.c3 p.c2) 5) (true)) (true))) (ac (ac (ac (K 0 (.cons 2 (.sl 1 0 4 (.ex 4)) (.cons 0 (.ptr 0 0) .nil)) (fp p.l p.com p.c0 p.c1 p.c2 p.c3 p.c0 p.c2 p.c1 p.c3) 5) (true)) (ac (ac (K 0 (.cons 2 (.sl 1 0 4 (.ex 4)) (.cons 0 (.ptr 0 0) .nil)) (fp p.l p.com p.c0 p.c1 p.c2 p.c3 p.c0 p.c2 p.c3 p.c1) 5) (true)) (true))) (ac (ac (ac (K 0 (.cons 2 (.sl 1 0 4 (.ex 4)) (.cons 0 (.ptr 0 0) .nil)) (fp p.l p.com p.c0 p.c1 p.c2 p.c3 p.c0 p.c3 p.c1 p.c2) 5) (true)) (ac (ac (K 0 (.cons 2 (.sl 1 0 4 (.ex 4)) (.cons 0 (.ptr 0 0) .nil)) (fp p.l p.com p.c0 p.c1 p.c2 p.c3 p.c0 p.c3 p.c2 p.c1) 5) (true)) (true))) (true)))) (ac (ac (ac (ac (K 0 (.cons 2 (.sl 1 0 4 (.ex 4)) (.cons 0 (.ptr 0 0) .nil)) (fp p.l p.com p.c0 p.c1 p.c2 p.c3 p.c1 p.c0 p.c2 p.c3) 5) (true)) (ac (ac (K 0 (.cons 2 (.sl 1 0 4 (.ex 4)) (.cons 0 (.ptr 0 0) .nil)) (fp p.l p.com p.c0 p.c1 p.c2 p.c3 p.c1 p.c0 p.c3 p.c2) 5) (true)) (true))) (ac (ac (ac (K 0 (.cons 2 (.sl 1 0 4 (.ex 4)) (.cons 0 (.ptr 0 0) .nil)) (fp p.l p.com p.c0 p.c1 p.c2 p.c3 p.c1 p.c2 p.c0 p.c3) 5) (true)) (ac (ac (K 0 (.cons 2 (.sl 1 0 4 (.ex 4)) (.cons 0 (.ptr 0 0) .nil)) (fp p.l p.com p.c0 p.c1 p.c2 p.c3 p.c1 p.c2 p.c3 p.c0) 5) (true)) (true))) (ac (ac (ac (K 0 (.cons 2 (.sl 1 0 4 (.ex 4)) (.cons 0 (.ptr 0 0) .nil)) (fp p.l p.com p.c0 p.c1 p.c2 p.c3 p.c1 p.c3 p.c0 p.c2) 5) (true)) (ac (ac (K 0 (.cons 2 (.sl 1 0 4 (.ex 4)) (.cons 0 (.ptr 0 0) .nil)) (fp p.l p.com p.c0 p.c1 p.c2 p.c3 p.c1 p.c3 p.c2 p.c0) 5) (true)) (true))) (true)))) (ac (ac (ac (ac (K 0 (.cons 2 (.sl 1 0 4 (.ex 4)) (.cons 0 (.ptr 0 0) .nil)) (fp p.l p.com p.c0 p.c1 p.c2 p.c3 p.c2 p.c0 p.c1 p.c3) 5) (true)) (ac (ac (K 0 (.cons 2 (.sl 1 0 4 (.ex 4)) (.cons 0 (.ptr 0 0) .nil)) (fp p.l p.com p.c0 p.c1 p.c2 p.c3 p.c2 p.c0 p.c3 p.c1) 5) (true)) (true))) (ac (ac (ac (K 0 (.cons 2 (.sl 1 0 4 (.ex 4)) (.cons 0 (.ptr 0 0) .nil)) (fp p.l p.com p.c0 p.c1 p.c2 p.c3 p.c2 p.c1 p.c0 p.c3) 5) (true)) (ac (ac (K 0 (.cons 2 (.sl 1 0 4 (.ex 4)) (.cons 0 (.ptr 0 0) .nil)) (fp p.l p.com p.c0 p.c1 p.c2 p.c3 p.c2 p.c1 p.c3 p.c0) 5) (true)) (true))) (ac (ac (ac (K 0 (.cons 2 (.sl 1 0 4 (.ex 4)) (.cons 0 (.ptr 0 0) .nil)) (fp p.l p.com p.c0 p.c1 p.c2 p.c3 p.c2 p.c3 p.c0 p.c1) 5) (true)) (ac (ac (K 0 (.cons 2 (.sl 1 0 4 (.ex 4)) (.cons 0 (.ptr 0 0) .nil)) (fp p.l p.com p.c0 p.c1 p.c2 p.c3 p.c2 p.c3 p.c1 p.c0) 5) (true)) (true))) (true)))) (ac (ac (ac (ac (K 0 (.cons 2 (.sl 1 0 4 (.ex 4)) (.cons 0 (.ptr 0 0) .nil)) (fp p.l p.com p.c0 p.c1 p.c2 p.c3 p.c3 p.c0 p.c1 p.c2) 5) (true)) (ac (ac (K 0 (.cons 2 (.sl 1 0 4 (.ex 4)) (.cons 0 (.ptr 0 0) .nil)) (fp p.l p.com p.c0 p.c1 p.c2 p.c3 p.c3 p.c0 p.c2 p.c1) 5) (true)) (true))) (ac (ac (ac (K 0 (.cons 2 (.sl 1 0 4 (.ex 4)) (.cons 0 (.ptr 0 0) .nil)) (fp p.l p.com p.c0 p.c1 p.c2 p.c3 p.c3 p.c1 p.c0 p.c2) 5) (true)) (ac (ac (K 0 (.cons 2 (.sl 1 0 4 (.ex 4)) (.cons 0 (.ptr 0 0) .nil)) (fp p.l p.com p.c0 p.c1 p.c2 p.c3 p.c3 p.c1 p.c2 p.c0) 5) (true)) (true))) (ac (ac (ac (K 0 (.cons 2 (.sl 1 0 4 (.ex 4)) (.cons 0 (.ptr 0 0) .nil)) (fp p.l p.com p.c0 p.c1 p.c2 p.c3 p.c3 p.c2 p.c0 p.c1) 5) (true)) (ac (ac (K 0 (.cons 2 (.sl 1 0 4 (.ex 4)) (.cons 0 (.ptr 0 0) .nil)) (fp p.l p.com p.c0 p.c1 p.c2 p.c3 p.c3 p.c2 p.c1 p.c0) 5) (true)) (true))) (true)))) (true)))))) (by kernel_rfl) ?_
 obtain⟨l,com,c0,c1,c2,c3⟩:=p;dsimp only;repeat' (first|exact afy hK ⟨_,_,_,_⟩ (by dsimp only[BQ];intro v;simp only[List.count_cons,List.count_nil]<;>omega)|refine aG ?_ ?_|refine mI rfl ?_|exact rfl)
theorem aiP:dp Tryz.prog 58 1 tc false 0 TE:=by
 refine mO (lf:=600) bD (ay qp) (by rfl) (fun b j x h=>by cases h) (fun S M nx K h=> ?_)
 obtain⟨p,h⟩:=bJ h
 obtain⟨e,h9⟩:=ae h
 clear h
 have e1:S=(wO p).1:=congrArg Prod.fst e
 have e2:M=(wO p).2.1:=congrArg (fun x=>x.2.1) e
 have e3:nx=(wO p).2.2:=congrArg (fun x=>x.2.2) e
 subst e1;subst e2;subst e3
 exact af7 p K h9
structure dZ where
 l:List Ke
 com:Int
 c0:Int
 c1:Int
 c2:Int
 c3:Int
structure jd where
 com:Int
def eh (p:dZ) (r:jd):Prop:=comR 3 p.com r.com [(p.l.length:Int),p.c1,p.c2,p.c3]
noncomputable def hQ (p:dZ):IE:=([.ptr 0 0],(fH p.l p.com p.c0 p.c1 p.c2 p.c3),4)
noncomputable def xt (p:dZ) (K:KE):Bool:=ah fun r:jd=>iP (eh p r) (K (.tup []) (fH p.l r.com (p.l.length:Int) p.c1 p.c2 p.c3) 4) true
theorem Vu {p:dZ} {K:KE} (hK:xt p K=true) (r:jd) (h:eh p r):K (.tup []) (fH p.l r.com (p.l.length:Int) p.c1 p.c2 p.c3) 4=true:=aA h (au hK r)
theorem Xj (p:dZ) (K:KE) (hK:xt p K=true):(aY 1 (bg rr) tc 600 KL (hQ p).1 (hQ p).2.1 (hQ p).2.2 K)=true:=by
 refine Eq.trans (b:=(ax fun p1:tu=>mP (((.cons 2 (.sl 1 0 0 (.ex 4)) (.cons 0 (.ptr 0 0) .nil)),(.node (.node (.node .leaf (some (.prow 68 18 Ke p.l ai)) .leaf) (some (.blk false 3 1 [[cE],[cE],[cE],[cE]])) .leaf) (some (bR 4 2 3 4 aa p.l.length p.com)) (.node (.node .leaf (some (.map [(.agg bu,.sy (.int 0 (p.l.length:Int)),0),(.agg bK,.sy (.int 0 p.c1),1),(.agg cQ,.sy (.int 0 p.c2),2),(.agg fx,.sy (.int 0 p.c3),3)] 4)) .leaf) (some (bw)) .leaf)),5)=wO p1) (ah fun r1:PH=>iP (BQ p1 r1) (ax fun p2:rb=>mP (([.sl 0 0 4 (.ex 4)],(iy r1.v0 r1.v1 r1.v2 r1.v3),1)=za p2) (ah fun r2:FA=>iP (uF p2 r2) (mP (((.int 0 p1.com):SY)=(.int 0 p1.com)) (K (.tup []) (fH p1.l (max p1.com r2.y1) p1.c0 p1.c1 p1.c2 p1.c3) 4)) true)) true))) (by kernel_rfl) ?_
 refine gE (⟨p.l,p.com,(p.l.length:Int),p.c1,p.c2,p.c3⟩:tu) rfl fun r1 hi1=> ?_
 dsimp only[BQ]at hi1
 refine gE (⟨r1.v0,r1.v1,r1.v2,r1.v3⟩:rb) rfl fun r2 hi2=> ?_
 dsimp only[uF]at hi2
 refine aK ?_
 exact Vu hK ⟨max p.com r2.y1⟩ (by dsimp only[eh]<;>(obtain⟨s0,s1,s2,s3⟩:=hi2;exact Fu (a:=[r2.y0]) (b:=[r2.y2,r2.y3]) (v:=r2.y1) rfl (fun w=>(s3 w).trans (hi1 w)) rfl (by intro x hx;simp only[List.mem_cons,List.not_mem_nil,or_false]at hx<;>omega) (by intro x hx;simp only[List.mem_cons,List.not_mem_nil,or_false]at hx<;>omega)))
noncomputable def KY:aM:=bn (mF 1 4) (be hQ xt) Bj
theorem XH:aX Tryz.prog 68 1 KY:=aD (cS (f:=68) (k:=1) (lp:=tc) (lf:=600) bD (ay qp) Pp (by rfl) (fun b j x h=>(bZ aiP (fun h=>(by cases h)) h)) fun p K h=>Xj p K h) Kf
noncomputable def rq:=aZ rr 1 KY 68 [(0,4)]
theorem qo:aE Tryz.prog rq:=az XH qp
end Go.Proofs.Tryz
