/- SeatJoins: one who wants to join a calm group is in, with all that was committed, and so are all others in that view; who leaves is out. No condition beyond the row. -/
import Derived.Test.YtjhpjjbnojbikaaGreatJ1
import Derived.Test.YtjhpjjbnojbikaaGreatJ2
import Derived.Test.YtjhpjjbnojbikaaGreatJ3
import Derived.Test.YtjhpjjbnojbikaaGreatJ4
import Derived.KernelRfl
import Derived.Test.YtjhpjjbnojbikaaGreatRows
import Derived.WalkKit
import Derived.ProofKit
import Derived.OpenShut
import Derived.Below
import Derived.LaidLaws
import Derived.RowKit
set_option linter.unusedSimpArgs false
set_option linter.unusedVariables false
open Bool renaming and_eq_true→akD
open List renaming append_assoc→akt,flatten_cons→akq,length_append→akk,length_cons→akl,length_drop→akJ,length_map→akm,length_nil→akn,length_take→akA,map_cons→akr,mem_of_getElem?→akp
open Option.some renaming inj→akH
namespace Go.Proofs.YtjhpjjbnojbikaaGreat.seatJoins
open Go Go.RowKit Go.Eng Go.Sy Go.ChangeShapes Go.WideShapes Go.ChangeAt
set_option linter.unusedVariables false
set_option maxRecDepth 100000
theorem own:ownKnob Tryz.prog.godebug=none:=by kernel_rfl
theorem akf:laidOutB Tryz.prog=true:=by kernel_rfl
theorem all:∀k n lv:Nat,1≤k→k≤4→n<20→lv≤k→Tryz.JP k n lv:=by
 intro k n lv h1 h2 h3 h4
 refine Tryz.jp_of ?_ h4
 have hk:k=1∨k=2∨k=3∨k=4:=by omega
 have hn:n=0∨n=1∨n=2∨n=3∨n=4∨n=5∨n=6∨n=7∨n=8∨n=9∨n=10∨n=11∨n=12∨n=13∨n=14∨n=15∨n=16∨n=17∨n=18∨n=19:=by omega
 rcases hk with rfl|rfl|rfl|rfl
 ·rcases hn with rfl|rfl|rfl|rfl|rfl|rfl|rfl|rfl|rfl|rfl|rfl|rfl|rfl|rfl|rfl|rfl|rfl|rfl|rfl|rfl
  ·exact Tryz.jt1_0
  ·exact Tryz.jt1_1
  ·exact Tryz.jt1_2
  ·exact Tryz.jt1_3
  ·exact Tryz.jt1_4
  ·exact Tryz.jt1_5
  ·exact Tryz.jt1_6
  ·exact Tryz.jt1_7
  ·exact Tryz.jt1_8
  ·exact Tryz.jt1_9
  ·exact Tryz.jt1_10
  ·exact Tryz.jt1_11
  ·exact Tryz.jt1_12
  ·exact Tryz.jt1_13
  ·exact Tryz.jt1_14
  ·exact Tryz.jt1_15
  ·exact Tryz.jt1_16
  ·exact Tryz.jt1_17
  ·exact Tryz.jt1_18
  ·exact Tryz.jt1_19
 ·rcases hn with rfl|rfl|rfl|rfl|rfl|rfl|rfl|rfl|rfl|rfl|rfl|rfl|rfl|rfl|rfl|rfl|rfl|rfl|rfl|rfl
  ·exact Tryz.jt2_0
  ·exact Tryz.jt2_1
  ·exact Tryz.jt2_2
  ·exact Tryz.jt2_3
  ·exact Tryz.jt2_4
  ·exact Tryz.jt2_5
  ·exact Tryz.jt2_6
  ·exact Tryz.jt2_7
  ·exact Tryz.jt2_8
  ·exact Tryz.jt2_9
  ·exact Tryz.jt2_10
  ·exact Tryz.jt2_11
  ·exact Tryz.jt2_12
  ·exact Tryz.jt2_13
  ·exact Tryz.jt2_14
  ·exact Tryz.jt2_15
  ·exact Tryz.jt2_16
  ·exact Tryz.jt2_17
  ·exact Tryz.jt2_18
  ·exact Tryz.jt2_19
 ·rcases hn with rfl|rfl|rfl|rfl|rfl|rfl|rfl|rfl|rfl|rfl|rfl|rfl|rfl|rfl|rfl|rfl|rfl|rfl|rfl|rfl
  ·exact Tryz.jt3_0
  ·exact Tryz.jt3_1
  ·exact Tryz.jt3_2
  ·exact Tryz.jt3_3
  ·exact Tryz.jt3_4
  ·exact Tryz.jt3_5
  ·exact Tryz.jt3_6
  ·exact Tryz.jt3_7
  ·exact Tryz.jt3_8
  ·exact Tryz.jt3_9
  ·exact Tryz.jt3_10
  ·exact Tryz.jt3_11
  ·exact Tryz.jt3_12
  ·exact Tryz.jt3_13
  ·exact Tryz.jt3_14
  ·exact Tryz.jt3_15
  ·exact Tryz.jt3_16
  ·exact Tryz.jt3_17
  ·exact Tryz.jt3_18
  ·exact Tryz.jt3_19
 ·rcases hn with rfl|rfl|rfl|rfl|rfl|rfl|rfl|rfl|rfl|rfl|rfl|rfl|rfl|rfl|rfl|rfl|rfl|rfl|rfl|rfl
  ·exact Tryz.jt4_0
  ·exact Tryz.jt4_1
  ·exact Tryz.jt4_2
  ·exact Tryz.jt4_3
  ·exact Tryz.jt4_4
  ·exact Tryz.jt4_5
  ·exact Tryz.jt4_6
  ·exact Tryz.jt4_7
  ·exact Tryz.jt4_8
  ·exact Tryz.jt4_9
  ·exact Tryz.jt4_10
  ·exact Tryz.jt4_11
  ·exact Tryz.jt4_12
  ·exact Tryz.jt4_13
  ·exact Tryz.jt4_14
  ·exact Tryz.jt4_15
  ·exact Tryz.jt4_16
  ·exact Tryz.jt4_17
  ·exact Tryz.jt4_18
  ·exact Tryz.jt4_19
theorem ajw (a0:Int) (a1:Int) (a2:Int) (w:World):Calls Tryz.prog 6 #[.int .i64 a0,.int .i64 a1,.int .i64 a2] w (Ret (GS.of w) [] fun _ v=>v= .bool true):=by
 let K:AV→T→Nat→Bool:=fun v _ _=>aq (v= .bool true)
 have hE:cF ⟨fun _=>.bool true,(GS.of w).M⟩:=⟨fun i=>rfl,trivial⟩
 obtain⟨D,_,c,rfl,_,hh,_,_⟩:=(Sim.start (E:=⟨fun _=>.bool true,(GS.of w).M⟩) (G:=GS.of w) rfl (Holds.start w)).ex
 have hs:Sim ⟨fun _=>.bool true,(GS.of w).M⟩ (fun i=>if i=0 then some ⟨0,0⟩ else none) (GS.of w) [] (Tryz.OQ [] []) 1 w:=by
  refine⟨⟨D,_,c,rfl,fun i α x Φ hi=> ?_,hh,fun i o hi=> ?_,fun i j e f o o' hi hj he hf hb=> ?_⟩,MLe.refl _,fun i hi=>if_neg (by omega)⟩
  ·obtain⟨rfl,ho⟩:=Tryz.OQ_get hi
   cases ho
   exact⟨_,MLe.refl _,rfl,trivial⟩
  ·obtain⟨rfl,rfl⟩:=Tryz.OQ_get hi
   exact⟨⟨0,0⟩,rfl,.inr ⟨rfl,trivial⟩⟩
  ·obtain⟨rfl,rfl⟩:=Tryz.OQ_get hi
   cases hb
 have hd:ax ⟨fun _=>.bool true,(GS.of w).M⟩ (fun i=>if i=0 then some ⟨0,0⟩ else none) [.ptr 0 0,.sy (.int 0 a0),.sy (.int 0 a1),.sy (.int 0 a2)]=some [.pointer (some ⟨0,0,none⟩),.int .i64 a0,.int .i64 a1,.int .i64 a2]:=by
  simp[ax,den,aJ,dH,aR,bY]
 refine Tryz.na_joins [.ptr 0 0,.sy (.int 0 a0),.sy (.int 0 a1),.sy (.int 0 a2)] [.pointer (some ⟨0,0,none⟩),.int .i64 a0,.int .i64 a1,.int .i64 a2] ⟨fun _=>.bool true,(GS.of w).M⟩ _ (GS.of w) [] (Tryz.OQ [] []) 1 w K _ hE hs hd ?_ ?_
 ·exact aW ⟨a0,a1,a2⟩ (aM rfl (aM all (aP fun r=>prB_true.2 rfl)))
 ·intro v M' nx' E' ρ' w' z hk h1 h2 h3 h4 h5
  obtain⟨G',g1,g2,g3⟩:=h4.holds
  refine⟨z,G',rfl,g1,g2,?_⟩
  have:=prB_true.1 hk
  subst this
  simpa[den] using h5.symm
set_option maxRecDepth 100000 in
theorem aeG (os:Os) (started:os.Started) (H:Type) (enc:TypeId×Value→H):
  ReturnsInHanded {} Tryz.checked os 6 .any (Rows.seatJoinsSpec.pre6 enc Tryz.prog Tryz.f6 Rows.seatJoinsRow.domain false) (Rows.seatJoinsSpec.post enc Tryz.prog Tryz.f6 false true false false):=by
 refine returnsInHanded_of_change (C:=Tryz.checked) own started (by kernel_rfl) Tryz.func6
  (ChangeSpec.witness6 (enc:=enc) (C:=Tryz.checked) false ⟨#[],#[.int .i64 0,.int .i64 0,.int .i64 0],[]⟩ 8 (by kernel_rfl) (by kernel_rfl) (by kernel_rfl) (by kernel_rfl)) ?_
 intro W base args ds gs before hval0 hW hcnd _
 have hval:∀(j:Nat) t v,Tryz.f6.params[j]?=some t→args[j]?=some v→Value.okWide Tryz.prog W .any base t v:=hval0
 have hW':=hW
 obtain⟨p,q,hA0,hV,rfl,hfz,hnd⟩:=hW
 have hA:DataW.TrodAll enc Tryz.prog W 0 (fun _=>true) true Tryz.f6.params.toList args.toList ds p:=hA0
 rw[Tryz.params6]at hA hval
 obtain⟨v0,vs0,d0,ds0,p0,q0,hargs,rfl,rfl,h0,r0⟩:=trodAll_cons hA
 obtain⟨v1,vs1,d1,ds1,p1,q1,rfl,rfl,rfl,h1,r1⟩:=trodAll_cons r0
 obtain⟨v2,vs2,d2,ds2,p2,q2,rfl,rfl,rfl,h2,r2⟩:=trodAll_cons r1
 obtain⟨rfl,rfl,rfl⟩:=trodAll_nil r2
 obtain rfl:args= #[v0,v1,v2]:=by cases args;simp_all
 obtain⟨rfl,rfl⟩:=trodVars_none hV
 obtain⟨a0,rfl,rfl,rfl,w0⟩:=open_int Tryz.underlying3 (hval 0 3 v0 rfl rfl) h0
 obtain⟨a1,rfl,rfl,rfl,w1⟩:=open_int Tryz.underlying3 (hval 1 3 v1 rfl rfl) h1
 obtain⟨a2,rfl,rfl,rfl,w2⟩:=open_int Tryz.underlying3 (hval 2 3 v2 rfl rfl) h2
 clear hA0 hval0
 simp only[List.append_nil]at hW'
 refine(ajw a0 a1 a2 W).mono fun e W2 ⟨v,G2,he,hG,hh,hv⟩=> ?_
 subst he;subst hv
 have bel:Below W.heap.size W W2:=Holds.below hG hh
 exact⟨_,rfl,_,_,_,[],_,[],hW',trodAll_mk1 (shut_bool Tryz.underlying4 _),(trodAll_cons_mk (shut_int Tryz.underlying3 w0) (trodAll_cons_mk (shut_int Tryz.underlying3 w1) (trodAll_cons_mk (shut_int Tryz.underlying3 w2) trodAll_mk0))),rfl,bel.frame _,fun h=>by cases h⟩
theorem ajF:Rows.seatJoinsRow.holds Tryz.pinned (OpenSpec.ofChange Rows.seatJoinsSpec):=
 OpenClaim.holds_of_wide 6 Tryz.f6 rfl rfl rfl rfl rfl rfl rfl ⟨rfl,rfl,rfl,rfl,rfl⟩ rfl rfl rfl rfl rfl (by kernel_rfl) Tryz.func6 (by kernel_rfl)
  (of_decide_eq_true (by kernel_rfl)) (by unfold Func.isWrapper;first|(rw[if_pos (by decide+kernel)];kernel_rfl)|(rw[if_neg (by decide+kernel)];exact⟨rfl,rfl⟩))
  (fun os started H enc _=>aeG os started H enc)
theorem holds:Rows.SeatJoinsSaid:=ajF
#print axioms holds
end Go.Proofs.YtjhpjjbnojbikaaGreat.seatJoins

