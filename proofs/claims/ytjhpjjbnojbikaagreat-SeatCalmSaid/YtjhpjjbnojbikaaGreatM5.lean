/- Definitions and lemmas of the proof, without a condition of their own. -/
import Derived.Test.YtjhpjjbnojbikaaGreatM4
import Derived.KernelRfl
open List renaming length_append→akk,length_cons→akl,length_drop→akG,length_nil→akn,length_take→aky,mem_of_getElem?→akp
namespace Go.Proofs.Tryz
open Go.Proofs.YtjhpjjbnojbikaaGreat (gw gN ii jj kU oS)
open Go Go.RowKit Go.Sy
open Go.Eng hiding ah
set_option maxRecDepth 1000000
set_option linter.unusedVariables false
set_option maxHeartbeats 4000000
theorem Come.hl {hd hd':Rl} {tl tl':List Rl} {cs cs':List Int} {fly fly':List Fl} {x:Fl} (h:Come hd tl cs fly x hd' tl' cs' fly'):hd'.l=hd.l:=by cases h<;>rfl
theorem FInv.add_ {hd:Rl} {tl:List Rl} {c:Int} {rest:List Int} {fly:List Fl} {x:Ke} {l:List Ke} {com c0:Int} {maj:Nat} (h:FInv hd tl (c::rest) fly) (hx:EB x) (hl:hd.l.length<400) (e:l=hd.l++[x]∧c0=(l.length:Int)∧comR maj hd.com com (c0::rest)) (hmaj:maj=(tl.length+1) / 2+1):FInv ⟨l,com⟩ tl (c0::rest) fly:=by
 obtain⟨e1,e2,hR⟩:=e
 subst e1
 subst e2
 exact h.add hx hl hmaj hR
theorem BJ (k:Int) (hk:0<k) (z:Int): -k<z.tmod k∧z.tmod k<k:=⟨by have:=Int.lt_tmod_of_pos z hk;omega,Int.tmod_lt_of_pos z hk⟩
theorem tmp (k:Int) (hk:0<k) (z:Int) (h:0≤z):0≤z.tmod k∧z.tmod k<k:=⟨Int.tmod_nonneg k h,Int.tmod_lt_of_pos z hk⟩
theorem tmk (k z:Int):0<k→ -k<z.tmod k∧z.tmod k<k:=fun hk=>BJ k hk z
theorem Xp (k z:Int):0<k→0≤(z.tmod k+k).tmod k∧(z.tmod k+k).tmod k<k:=fun hk=>tmp k hk _ (by have:=BJ k hk z;omega)
theorem tdp (z:Int) (h:0≤z):0≤z.tdiv 16∧z.tdiv 16≤z:=by
 rw[Int.tdiv_eq_ediv_of_nonneg h]
 omega
theorem Xr {L:List Fl} {a:Nat} (h:0<L.length - a):a+1≤L.length∧L.length≤L.length∧(L.drop (a+1)).length≤(L.drop a).length∧∀x,x∈L.drop (a+1)→x∈L.drop a:=
 ⟨by omega,Nat.le_refl _,by rw[akG,akG];omega,fun x hx=>by rw[←List.drop_drop]at hx;exact List.mem_of_mem_drop hx⟩
theorem adn {hd:Rl} {cs:List Int} {L:List Fl} {a:Nat} (h:FInv hd [] cs (L.drop a)):L.length - a=0:=by
 rw[←akG]
 rcases hl:L.drop a with _|⟨x,r⟩
 ·rfl
 ·have hm:=h.msgs x (by rw[hl];exact List.mem_cons_self)
  rcases hm.kind with k|k
  ·obtain⟨_,j,r,_,h2,_⟩:=hm.app k;simp at h2
  ·obtain⟨_,_,_,j,r,_,h2,_⟩:=hm.ack k;simp at h2
theorem cj {L:List Fl} {a n i k:Nat}:∀x,x∈(L.drop a).take i++(L.drop k).take n→a≤k→x∈L.drop a:=fun x h hk=>by
 rcases List.mem_append.1 h with h|h
 ·exact List.mem_of_mem_take h
 ·have:=List.mem_of_mem_take h
  obtain⟨d,rfl⟩:=Nat.exists_eq_add_of_le hk
  rw[←List.drop_drop]at this
  exact List.mem_of_mem_drop this
structure Sg where
 k:Int
 x:Int
 y:Int
 i:Int
theorem kr {f g:G1} (h:ef f) (k:Tk1 f g):ef g:=by
 obtain⟨os,ha,⟨t1,t2,t3⟩,e0,e1,e2,_⟩:=k
 unfold ef
 rw[e0,e1,e2,t1]
 exact⟨h.1.tick ha,t2⟩
theorem ajG {f:G1} {L:List Fl} {a o cp y:Nat} (h:ef f) (q:a≤L.length∧L.length≤y∧(L.drop a).length≤400∧∀x,x∈L.drop a→x∈f.L.drop f.a):ef {f with L:=L,a:=a,o:=o,cp:=cp}:=⟨h.1.sub q.2.2.2 q.2.2.1,q.1⟩
theorem jZ {f g:G1} (k:Tk1 f g):g.s0.l.length=f.s0.l.length∧g.now=f.now+1∧g.cnt=f.cnt∧g.L.length≤f.L.length+3:=by
 obtain⟨os,ha,⟨t1,t2,t3⟩,e0,e1,e2,e3,e4⟩:=k
 have:=ha.1
 simp only[akl,akn]at this
 exact⟨by rw[e0],e3,e4,by omega⟩
theorem ka {f g:G2} (h:dH f) (k:WK f g):dH g:=by
 obtain⟨os,ha,⟨t1,t2,t3⟩,e0,e1,e2,_⟩:=k
 unfold dH
 rw[e0,e1,e2,t1]
 exact⟨h.1.tick ha,t2⟩
theorem EQ {f:G2} {L:List Fl} {a o cp y:Nat} (h:dH f) (q:a≤L.length∧L.length≤y∧(L.drop a).length≤400∧∀x,x∈L.drop a→x∈f.L.drop f.a):dH {f with L:=L,a:=a,o:=o,cp:=cp}:=⟨h.1.sub q.2.2.2 q.2.2.1,q.1⟩
theorem aju {f g:G2} {x:Fl} (k:Uu f x g) (h:dH f) (hm:MsgOk f.s0 [f.s1] x):dH g:=⟨h.1.come hm k.1,k.2.2.2.1⟩
theorem jf {f g:G2} (k:WK f g):g.s0.l.length=f.s0.l.length∧g.now=f.now+1∧g.cnt=f.cnt∧g.L.length≤f.L.length+3:=by
 obtain⟨os,ha,⟨t1,t2,t3⟩,e0,e1,e2,e3,e4⟩:=k
 have:=ha.1
 simp only[akl,akn]at this
 exact⟨by rw[e0],e3,e4,by omega⟩
theorem ake {f g:G2} {x:Fl} (k:Uu f x g):g.s0.l.length=f.s0.l.length∧g.now=f.now∧g.cnt=f.cnt∧g.L.length≤f.L.length+1:=⟨by rw[k.1.hl],k.2.1,k.2.2.1,k.2.2.2.2⟩
theorem jg {f g:G3} (h:dD f) (k:TP f g):dD g:=by
 obtain⟨os,ha,⟨t1,t2,t3⟩,e0,e1,e2,_⟩:=k
 unfold dD
 rw[e0,e1,e2,t1]
 exact⟨h.1.tick ha,t2⟩
theorem EP {f:G3} {L:List Fl} {a o cp y:Nat} (h:dD f) (q:a≤L.length∧L.length≤y∧(L.drop a).length≤400∧∀x,x∈L.drop a→x∈f.L.drop f.a):dD {f with L:=L,a:=a,o:=o,cp:=cp}:=⟨h.1.sub q.2.2.2 q.2.2.1,q.1⟩
theorem ajt {f g:G3} {x:Fl} (k:Lo f x g) (h:dD f) (hm:MsgOk f.s0 [f.s1,f.s2] x):dD g:=⟨h.1.come hm k.1,k.2.2.2.1⟩
theorem iE {f g:G3} (k:TP f g):g.s0.l.length=f.s0.l.length∧g.now=f.now+1∧g.cnt=f.cnt∧g.L.length≤f.L.length+3:=by
 obtain⟨os,ha,⟨t1,t2,t3⟩,e0,e1,e2,e3,e4⟩:=k
 have:=ha.1
 simp only[akl,akn]at this
 exact⟨by rw[e0],e3,e4,by omega⟩
theorem akd {f g:G3} {x:Fl} (k:Lo f x g):g.s0.l.length=f.s0.l.length∧g.now=f.now∧g.cnt=f.cnt∧g.L.length≤f.L.length+1:=⟨by rw[k.1.hl],k.2.1,k.2.2.1,k.2.2.2.2⟩
theorem iF {f g:G4} (h:dy f) (k:OT f g):dy g:=by
 obtain⟨os,ha,⟨t1,t2,t3⟩,e0,e1,e2,_⟩:=k
 unfold dy
 rw[e0,e1,e2,t1]
 exact⟨h.1.tick ha,t2⟩
theorem EO {f:G4} {L:List Fl} {a o cp y:Nat} (h:dy f) (q:a≤L.length∧L.length≤y∧(L.drop a).length≤400∧∀x,x∈L.drop a→x∈f.L.drop f.a):dy {f with L:=L,a:=a,o:=o,cp:=cp}:=⟨h.1.sub q.2.2.2 q.2.2.1,q.1⟩
theorem ajs {f g:G4} {x:Fl} (k:EL f x g) (h:dy f) (hm:MsgOk f.s0 [f.s1,f.s2,f.s3] x):dy g:=⟨h.1.come hm k.1,k.2.2.2.1⟩
theorem ib {f g:G4} (k:OT f g):g.s0.l.length=f.s0.l.length∧g.now=f.now+1∧g.cnt=f.cnt∧g.L.length≤f.L.length+3:=by
 obtain⟨os,ha,⟨t1,t2,t3⟩,e0,e1,e2,e3,e4⟩:=k
 have:=ha.1
 simp only[akl,akn]at this
 exact⟨by rw[e0],e3,e4,by omega⟩
theorem akc {f g:G4} {x:Fl} (k:EL f x g):g.s0.l.length=f.s0.l.length∧g.now=f.now∧g.cnt=f.cnt∧g.L.length≤f.L.length+1:=⟨by rw[k.1.hl],k.2.1,k.2.2.1,k.2.2.2.2⟩
noncomputable def Ut (f:G1) (s:Sg) (k0:Nat) (k1:Nat):T:=(.node (.node (.node (.node .leaf (some (bR 1 11 12 13 aa k1 f.s0.com)) .leaf) (some (.blk true 4 1 [[.bool false]])) (.node .leaf (some (jb)) .leaf)) (some (.blk false 28 4 [[.sy (.int 0 s.k),.sy (.int 0 s.x),.sy (.int 0 s.y),.sy (.int 0 s.i)]])) (.node (.node .leaf (some (jb)) .leaf) (some (bS 1 6 7 8 9 10 aa)) (.node .leaf (some (.map [(.agg bu,.sy (.int 0 f.c0),0)] 1)) .leaf))) (some (.blk false 34 5 [[.sl 2 0 1 (.rest 0),.sl 3 0 1 (.rest 0),.sy (.psub 4 33 f.a k0 f.o (some f.cp)),.sy (.int 0 f.now),.sy (.int 0 f.cnt)]])) (.node (.node (.node .leaf (some (bA)) .leaf) (some (.prow 76 33 Fl f.L cw)) (.node .leaf (some (.prow 68 18 Ke f.s0.l ai)) .leaf)) (some (.blk true 36 1 [[.ptr 5 0]])) (.node (.node .leaf (some (bV 1 14)) .leaf) (some (jb)) (.node .leaf (some (jb)) .leaf))))
noncomputable def Lm (f:G1) (s:Sg) (t:Fl) (k0:Nat) (k1:Nat):T:=(.node (.node (.node (.node (.node .leaf (some (jb)) .leaf) (some (jb)) .leaf) (some (.blk true 36 1 [[.ptr 6 0]])) (.node .leaf (some (bV 1 15)) .leaf)) (some (.blk false 28 4 [[.sy (.int 0 s.k),.sy (.int 0 s.x),.sy (.int 0 s.y),.sy (.int 0 s.i)]])) (.node (.node .leaf (some (bA)) .leaf) (some (.prow 76 33 Fl f.L cw)) (.node .leaf (some (.prow 68 18 Ke f.s0.l ai)) .leaf))) (some (.blk false 34 5 [[.sl 3 0 1 (.rest 0),.sl 4 0 1 (.rest 0),.sy (.psub 5 33 f.a k0 f.o (some f.cp)),.sy (.int 0 f.now),.sy (.int 0 f.cnt)]])) (.node (.node (.node .leaf (some (bR 1 12 13 14 aa k1 f.s0.com)) .leaf) (some (.blk true 4 1 [[.bool false]])) (.node .leaf (some (jb)) .leaf)) (some (.blk false 76 33 [[.sy (.int 0 t.fr),.sy (.int 0 t.to),.sy (.int 1 t.k),aa,aa,bt,.sy (.int 3 t.n),.sy (.int 3 t.c),aw,aI,aI,aa,aJ,aw,aa,aa,aa,aa,aa,aa,aa,.nilS,aa,.str [],aa,aw,.nilS,aa,aJ,.bool false,.nilS,.sy (.imm t.h 18 Ke t.l ai),.nilS]])) (.node (.node .leaf (some (jb)) .leaf) (some (bS 1 7 8 9 10 11 aa)) (.node .leaf (some (.map [(.agg bu,.sy (.int 0 f.c0),0)] 1)) .leaf))))
noncomputable def Us (f:G2) (s:Sg) (k0:Nat) (k1:Nat) (k2:Nat):T:=(.node (.node (.node (.node (.node .leaf (some (bN)) .leaf) (some (bN)) (.node .leaf (some (.map [(.agg bu,.sy (.int 0 0),0),(.agg bK,.sy (.int 0 0),1)] 2)) .leaf)) (some (.blk true 4 1 [[.bool false],[.bool false]])) (.node (.node .leaf (some (.map [(.agg bu,.sy (.int 0 f.c0),0),(.agg bK,.sy (.int 0 f.c1),1)] 2)) .leaf) (some (bV 2 20)) .leaf)) (some (.blk false 28 4 [[.sy (.int 0 s.k),.sy (.int 0 s.x),.sy (.int 0 s.y),.sy (.int 0 s.i)]])) (.node (.node (.node .leaf (some (bN)) .leaf) (some (bA)) .leaf) (some (bS 2 7 8 9 10 11 aa)) (.node (.node .leaf (some (bN)) .leaf) (some (bR 2 21 22 23 (.sy (.int 1 1)) k2 f.s1.com)) .leaf))) (some (.blk false 34 5 [[.sl 2 0 2 (.rest 0),.sl 3 0 2 (.rest 0),.sy (.psub 4 33 f.a k0 f.o (some f.cp)),.sy (.int 0 f.now),.sy (.int 0 f.cnt)]])) (.node (.node (.node (.node .leaf (some (bV 2 24)) .leaf) (some (bR 2 17 18 19 aa k1 f.s0.com)) (.node .leaf (some (bN)) .leaf)) (some (.prow 76 33 Fl f.L cw)) (.node (.node .leaf (some (bN)) .leaf) (some (bN)) .leaf)) (some (.blk true 36 1 [[.ptr 5 0],[.ptr 6 0]])) (.node (.node (.node .leaf (some (.prow 68 18 Ke f.s0.l ai)) .leaf) (some (bN)) .leaf) (some (bS 2 12 13 14 15 16 (.sy (.int 1 1)))) (.node (.node .leaf (some (.prow 68 18 Ke f.s1.l ai)) .leaf) (some (bA)) .leaf))))
noncomputable def Ll (f:G2) (s:Sg) (t:Fl) (k0:Nat) (k1:Nat) (k2:Nat):T:=(.node (.node (.node (.node (.node .leaf (some (bA)) .leaf) (some (bS 2 13 14 15 16 17 (.sy (.int 1 1)))) (.node .leaf (some (.prow 68 18 Ke f.s1.l ai)) .leaf)) (some (.blk true 36 1 [[.ptr 6 0],[.ptr 7 0]])) (.node (.node .leaf (some (.prow 68 18 Ke f.s0.l ai)) .leaf) (some (bN)) .leaf)) (some (.blk false 28 4 [[.sy (.int 0 s.k),.sy (.int 0 s.x),.sy (.int 0 s.y),.sy (.int 0 s.i)]])) (.node (.node (.node .leaf (some (bV 2 25)) .leaf) (some (bR 2 18 19 20 aa k1 f.s0.com)) (.node .leaf (some (bN)) .leaf)) (some (.prow 76 33 Fl f.L cw)) (.node (.node .leaf (some (bN)) .leaf) (some (bN)) .leaf))) (some (.blk false 34 5 [[.sl 3 0 2 (.rest 0),.sl 4 0 2 (.rest 0),.sy (.psub 5 33 f.a k0 f.o (some f.cp)),.sy (.int 0 f.now),.sy (.int 0 f.cnt)]])) (.node (.node (.node (.node .leaf (some (bN)) .leaf) (some (bN)) (.node .leaf (some (.map [(.agg bu,.sy (.int 0 0),0),(.agg bK,.sy (.int 0 0),1)] 2)) .leaf)) (some (.blk true 4 1 [[.bool false],[.bool false]])) (.node (.node .leaf (some (.map [(.agg bu,.sy (.int 0 f.c0),0),(.agg bK,.sy (.int 0 f.c1),1)] 2)) .leaf) (some (bV 2 21)) .leaf)) (some (.blk false 76 33 [[.sy (.int 0 t.fr),.sy (.int 0 t.to),.sy (.int 1 t.k),aa,aa,bt,.sy (.int 3 t.n),.sy (.int 3 t.c),aw,aI,aI,aa,aJ,aw,aa,aa,aa,aa,aa,aa,aa,.nilS,aa,.str [],aa,aw,.nilS,aa,aJ,.bool false,.nilS,.sy (.imm t.h 18 Ke t.l ai),.nilS]])) (.node (.node (.node .leaf (some (bN)) .leaf) (some (bA)) .leaf) (some (bS 2 8 9 10 11 12 aa)) (.node (.node .leaf (some (bN)) .leaf) (some (bR 2 22 23 24 (.sy (.int 1 1)) k2 f.s1.com)) .leaf))))
noncomputable def Ur (f:G3) (s:Sg) (k0:Nat) (k1:Nat) (k2:Nat) (k3:Nat):T:=(.node (.node (.node (.node (.node (.node .leaf (some (bE)) .leaf) (some (bA)) .leaf) (some (bS 3 18 19 20 21 22 (.sy (.int 1 2)))) (.node .leaf (some (bE)) .leaf)) (some (.blk true 4 1 [[.bool false],[.bool false],[.bool false]])) (.node (.node .leaf (some (bR 3 31 32 33 (.sy (.int 1 2)) k3 f.s2.com)) .leaf) (some (bE)) (.node .leaf (some (bE)) .leaf))) (some (.blk false 28 4 [[.sy (.int 0 s.k),.sy (.int 0 s.x),.sy (.int 0 s.y),.sy (.int 0 s.i)]])) (.node (.node (.node (.node .leaf (some (.map [(.agg bu,.sy (.int 0 0),0),(.agg bK,.sy (.int 0 0),1),(.agg cQ,.sy (.int 0 0),2)] 3)) .leaf) (some (bV 3 30)) .leaf) (some (bR 3 23 24 25 aa k1 f.s0.com)) (.node .leaf (some (.map [(.agg bu,.sy (.int 0 f.c0),0),(.agg bK,.sy (.int 0 f.c1),1),(.agg cQ,.sy (.int 0 f.c2),2)] 3)) .leaf)) (some (bS 3 8 9 10 11 12 aa)) (.node (.node .leaf (some (bE)) .leaf) (some (bE)) (.node .leaf (some (.map [(.agg bu,.sy (.int 0 0),0),(.agg bK,.sy (.int 0 0),1),(.agg cQ,.sy (.int 0 0),2)] 3)) .leaf)))) (some (.blk false 34 5 [[.sl 2 0 3 (.rest 0),.sl 3 0 3 (.rest 0),.sy (.psub 4 33 f.a k0 f.o (some f.cp)),.sy (.int 0 f.now),.sy (.int 0 f.cnt)]])) (.node (.node (.node (.node (.node .leaf (some (.prow 68 18 Ke f.s2.l ai)) .leaf) (some (bE)) .leaf) (some (bE)) (.node .leaf (some (.prow 68 18 Ke f.s0.l ai)) .leaf)) (some (.prow 76 33 Fl f.L cw)) (.node (.node .leaf (some (bA)) .leaf) (some (bV 3 26)) (.node .leaf (some (.prow 68 18 Ke f.s1.l ai)) .leaf))) (some (.blk true 36 1 [[.ptr 5 0],[.ptr 6 0],[.ptr 7 0]])) (.node (.node (.node (.node .leaf (some (bE)) .leaf) (some (bE)) .leaf) (some (bA)) (.node .leaf (some (bE)) .leaf)) (some (bS 3 13 14 15 16 17 (.sy (.int 1 1)))) (.node (.node .leaf (some (bV 3 34)) .leaf) (some (bR 3 27 28 29 (.sy (.int 1 1)) k2 f.s1.com)) (.node .leaf (some (bE)) .leaf)))))
noncomputable def Lk (f:G3) (s:Sg) (t:Fl) (k0:Nat) (k1:Nat) (k2:Nat) (k3:Nat):T:=(.node (.node (.node (.node (.node (.node .leaf (some (bE)) .leaf) (some (bR 3 28 29 30 (.sy (.int 1 1)) k2 f.s1.com)) .leaf) (some (bS 3 14 15 16 17 18 (.sy (.int 1 1)))) (.node .leaf (some (bV 3 35)) .leaf)) (some (.blk true 36 1 [[.ptr 6 0],[.ptr 7 0],[.ptr 8 0]])) (.node (.node (.node .leaf (some (bE)) .leaf) (some (bE)) .leaf) (some (bA)) (.node .leaf (some (bE)) .leaf))) (some (.blk false 28 4 [[.sy (.int 0 s.k),.sy (.int 0 s.x),.sy (.int 0 s.y),.sy (.int 0 s.i)]])) (.node (.node (.node (.node .leaf (some (.prow 68 18 Ke f.s2.l ai)) .leaf) (some (bE)) .leaf) (some (bE)) (.node .leaf (some (.prow 68 18 Ke f.s0.l ai)) .leaf)) (some (.prow 76 33 Fl f.L cw)) (.node (.node .leaf (some (bA)) .leaf) (some (bV 3 27)) (.node .leaf (some (.prow 68 18 Ke f.s1.l ai)) .leaf)))) (some (.blk false 34 5 [[.sl 3 0 3 (.rest 0),.sl 4 0 3 (.rest 0),.sy (.psub 5 33 f.a k0 f.o (some f.cp)),.sy (.int 0 f.now),.sy (.int 0 f.cnt)]])) (.node (.node (.node (.node (.node .leaf (some (bE)) .leaf) (some (bA)) .leaf) (some (bS 3 19 20 21 22 23 (.sy (.int 1 2)))) (.node .leaf (some (bE)) .leaf)) (some (.blk true 4 1 [[.bool false],[.bool false],[.bool false]])) (.node (.node .leaf (some (bR 3 32 33 34 (.sy (.int 1 2)) k3 f.s2.com)) .leaf) (some (bE)) (.node .leaf (some (bE)) .leaf))) (some (.blk false 76 33 [[.sy (.int 0 t.fr),.sy (.int 0 t.to),.sy (.int 1 t.k),aa,aa,bt,.sy (.int 3 t.n),.sy (.int 3 t.c),aw,aI,aI,aa,aJ,aw,aa,aa,aa,aa,aa,aa,aa,.nilS,aa,.str [],aa,aw,.nilS,aa,aJ,.bool false,.nilS,.sy (.imm t.h 18 Ke t.l ai),.nilS]])) (.node (.node (.node (.node .leaf (some (.map [(.agg bu,.sy (.int 0 0),0),(.agg bK,.sy (.int 0 0),1),(.agg cQ,.sy (.int 0 0),2)] 3)) .leaf) (some (bV 3 31)) .leaf) (some (bR 3 24 25 26 aa k1 f.s0.com)) (.node .leaf (some (.map [(.agg bu,.sy (.int 0 f.c0),0),(.agg bK,.sy (.int 0 f.c1),1),(.agg cQ,.sy (.int 0 f.c2),2)] 3)) .leaf)) (some (bS 3 9 10 11 12 13 aa)) (.node (.node .leaf (some (bE)) .leaf) (some (bE)) (.node .leaf (some (.map [(.agg bu,.sy (.int 0 0),0),(.agg bK,.sy (.int 0 0),1),(.agg cQ,.sy (.int 0 0),2)] 3)) .leaf)))))
noncomputable def Uq (f:G4) (s:Sg) (k0:Nat) (k1:Nat) (k2:Nat) (k3:Nat) (k4:Nat):T:=(.node (.node (.node (.node (.node (.node .leaf (some (.map [(.agg bu,.sy (.int 0 f.c0),0),(.agg bK,.sy (.int 0 f.c1),1),(.agg cQ,.sy (.int 0 f.c2),2),(.agg fx,.sy (.int 0 f.c3),3)] 4)) .leaf) (some (bR 4 33 34 35 (.sy (.int 1 1)) k2 f.s1.com)) .leaf) (some (bS 4 19 20 21 22 23 (.sy (.int 1 2)))) (.node (.node .leaf (some (.map [(.agg bu,.sy (.int 0 0),0),(.agg bK,.sy (.int 0 0),1),(.agg cQ,.sy (.int 0 0),2),(.agg fx,.sy (.int 0 0),3)] 4)) .leaf) (some (bV 4 40)) .leaf)) (some (.blk true 4 1 [[.bool false],[.bool false],[.bool false],[.bool false]])) (.node (.node (.node .leaf (some (.map [(.agg bu,.sy (.int 0 0),0),(.agg bK,.sy (.int 0 0),1),(.agg cQ,.sy (.int 0 0),2),(.agg fx,.sy (.int 0 0),3)] 4)) .leaf) (some (bw)) .leaf) (some (bA)) (.node (.node .leaf (some (.map [(.agg bu,.sy (.int 0 0),0),(.agg bK,.sy (.int 0 0),1),(.agg cQ,.sy (.int 0 0),2),(.agg fx,.sy (.int 0 0),3)] 4)) .leaf) (some (bw)) .leaf))) (some (.blk false 28 4 [[.sy (.int 0 s.k),.sy (.int 0 s.x),.sy (.int 0 s.y),.sy (.int 0 s.i)]])) (.node (.node (.node (.node .leaf (some (bw)) .leaf) (some (bw)) .leaf) (some (bw)) (.node (.node .leaf (some (bw)) .leaf) (some (bR 4 41 42 43 (.sy (.int 1 3)) k4 f.s3.com)) .leaf)) (some (bS 4 9 10 11 12 13 aa)) (.node (.node (.node .leaf (some (bw)) .leaf) (some (bA)) .leaf) (some (bV 4 32)) (.node .leaf (some (bw)) .leaf)))) (some (.blk false 34 5 [[.sl 2 0 4 (.rest 0),.sl 3 0 4 (.rest 0),.sy (.psub 4 33 f.a k0 f.o (some f.cp)),.sy (.int 0 f.now),.sy (.int 0 f.cnt)]])) (.node (.node (.node (.node (.node .leaf (some (bw)) .leaf) (some (bA)) .leaf) (some (bS 4 24 25 26 27 28 (.sy (.int 1 3)))) (.node (.node .leaf (some (bw)) .leaf) (some (bw)) .leaf)) (some (.prow 76 33 Fl f.L cw)) (.node (.node (.node .leaf (some (bw)) .leaf) (some (bR 4 37 38 39 (.sy (.int 1 2)) k3 f.s2.com)) .leaf) (some (bw)) (.node (.node .leaf (some (bw)) .leaf) (some (bV 4 44)) .leaf))) (some (.blk true 36 1 [[.ptr 5 0],[.ptr 6 0],[.ptr 7 0],[.ptr 8 0]])) (.node (.node (.node (.node .leaf (some (.prow 68 18 Ke f.s1.l ai)) .leaf) (some (bV 4 36)) .leaf) (some (bR 4 29 30 31 aa k1 f.s0.com)) (.node (.node .leaf (some (.prow 68 18 Ke f.s3.l ai)) .leaf) (some (bA)) .leaf)) (some (bS 4 14 15 16 17 18 (.sy (.int 1 1)))) (.node (.node (.node .leaf (some (.prow 68 18 Ke f.s2.l ai)) .leaf) (some (bw)) .leaf) (some (bw)) (.node .leaf (some (.prow 68 18 Ke f.s0.l ai)) .leaf)))))
noncomputable def Lj (f:G4) (s:Sg) (t:Fl) (k0:Nat) (k1:Nat) (k2:Nat) (k3:Nat) (k4:Nat):T:=(.node (.node (.node (.node (.node (.node .leaf (some (.prow 68 18 Ke f.s0.l ai)) .leaf) (some (bw)) .leaf) (some (bS 4 15 16 17 18 19 (.sy (.int 1 1)))) (.node (.node .leaf (some (.prow 68 18 Ke f.s2.l ai)) .leaf) (some (bw)) .leaf)) (some (.blk true 36 1 [[.ptr 6 0],[.ptr 7 0],[.ptr 8 0],[.ptr 9 0]])) (.node (.node (.node .leaf (some (.prow 68 18 Ke f.s1.l ai)) .leaf) (some (bV 4 37)) .leaf) (some (bR 4 30 31 32 aa k1 f.s0.com)) (.node (.node .leaf (some (.prow 68 18 Ke f.s3.l ai)) .leaf) (some (bA)) .leaf))) (some (.blk false 28 4 [[.sy (.int 0 s.k),.sy (.int 0 s.x),.sy (.int 0 s.y),.sy (.int 0 s.i)]])) (.node (.node (.node (.node .leaf (some (bw)) .leaf) (some (bA)) .leaf) (some (bS 4 25 26 27 28 29 (.sy (.int 1 3)))) (.node (.node .leaf (some (bw)) .leaf) (some (bw)) .leaf)) (some (.prow 76 33 Fl f.L cw)) (.node (.node (.node .leaf (some (bw)) .leaf) (some (bR 4 38 39 40 (.sy (.int 1 2)) k3 f.s2.com)) .leaf) (some (bw)) (.node (.node .leaf (some (bw)) .leaf) (some (bV 4 45)) .leaf)))) (some (.blk false 34 5 [[.sl 3 0 4 (.rest 0),.sl 4 0 4 (.rest 0),.sy (.psub 5 33 f.a k0 f.o (some f.cp)),.sy (.int 0 f.now),.sy (.int 0 f.cnt)]])) (.node (.node (.node (.node (.node .leaf (some (.map [(.agg bu,.sy (.int 0 f.c0),0),(.agg bK,.sy (.int 0 f.c1),1),(.agg cQ,.sy (.int 0 f.c2),2),(.agg fx,.sy (.int 0 f.c3),3)] 4)) .leaf) (some (bR 4 34 35 36 (.sy (.int 1 1)) k2 f.s1.com)) .leaf) (some (bS 4 20 21 22 23 24 (.sy (.int 1 2)))) (.node (.node .leaf (some (.map [(.agg bu,.sy (.int 0 0),0),(.agg bK,.sy (.int 0 0),1),(.agg cQ,.sy (.int 0 0),2),(.agg fx,.sy (.int 0 0),3)] 4)) .leaf) (some (bV 4 41)) .leaf)) (some (.blk true 4 1 [[.bool false],[.bool false],[.bool false],[.bool false]])) (.node (.node (.node .leaf (some (.map [(.agg bu,.sy (.int 0 0),0),(.agg bK,.sy (.int 0 0),1),(.agg cQ,.sy (.int 0 0),2),(.agg fx,.sy (.int 0 0),3)] 4)) .leaf) (some (bw)) .leaf) (some (bA)) (.node (.node .leaf (some (.map [(.agg bu,.sy (.int 0 0),0),(.agg bK,.sy (.int 0 0),1),(.agg cQ,.sy (.int 0 0),2),(.agg fx,.sy (.int 0 0),3)] 4)) .leaf) (some (bw)) .leaf))) (some (.blk false 76 33 [[.sy (.int 0 t.fr),.sy (.int 0 t.to),.sy (.int 1 t.k),aa,aa,bt,.sy (.int 3 t.n),.sy (.int 3 t.c),aw,aI,aI,aa,aJ,aw,aa,aa,aa,aa,aa,aa,aa,.nilS,aa,.str [],aa,aw,.nilS,aa,aJ,.bool false,.nilS,.sy (.imm t.h 18 Ke t.l ai),.nilS]])) (.node (.node (.node (.node .leaf (some (bw)) .leaf) (some (bw)) .leaf) (some (bw)) (.node (.node .leaf (some (bw)) .leaf) (some (bR 4 42 43 44 (.sy (.int 1 3)) k4 f.s3.com)) .leaf)) (some (bS 4 10 11 12 13 14 aa)) (.node (.node (.node .leaf (some (bw)) .leaf) (some (bA)) .leaf) (some (bV 4 33)) (.node .leaf (some (bw)) .leaf)))))
def AL:XF:=.mk 44 (.one 4) (.aft (.seq (g_ 2 [e_ 0 3 (.box 68 (.t 1)),p_ 1 4 (.mv (i_ 0))]) (.seq (.block 2 (.seq (h_ 14 [p_ 0 6 (m_ 0),c_ 1 7 65 [.t 6],p_ 2 8 (.un 0 (.t 7)),p_ 3 9 (m_ 8),aU 4 10 9 false (.ld true 18 (.t 3)),am 5 11 9 false (m_ 0),am 6 12 9 false (n_ 11),am 7 13 9 false (f_ 0 12),am 8 14 9 false (f_ 0 13),aU 9 15 9 false (l_ 14),da 10 16 9 false 66 [.t 10,.t 15],am 11 17 9 false (.un 0 (.t 16)),p_ 12 18 (.pick (.t 9) (.c (.bool true)) (.t 17)),p_ 13 5 (m_ 18)]) (.cond (.t 5) (.seq (g_ 1 [p_ 0 4 (.mv (i_ 1))]) .ret) (.seq (g_ 5 [p_ 0 20 (m_ 0),p_ 1 21 (n_ 20),p_ 2 22 (f_ 8 21),r_ 3 23 (l_ 22),p_ 4 19 (m_ 23)]) (.cond (.t 19) (.seq (g_ 1 [p_ 0 4 (.mv (i_ 17))]) .ret) (.seq (g_ 7 [p_ 0 25 (m_ 0),p_ 1 26 (n_ 25),p_ 2 27 (f_ 5 26),r_ 3 28 (l_ 27),p_ 4 29 (k_ 28),p_ 5 30 (.bin 3 3 (.t 29) (i_ 400)),p_ 6 24 (m_ 30)]) (.cond (.t 24) (.seq (g_ 1 [p_ 0 4 (.mv (i_ 11))]) .ret) .skip))))))) (.seq (h_ 12 [p_ 0 31 (m_ 0),p_ 1 32 (m_ 0),p_ 2 33 (n_ 32),p_ 3 34 (f_ 5 33),r_ 4 35 (l_ 34),r_ 5 36 (.ld true 18 (.t 3)),c_ 6 37 67 [.t 36],a_ 4 35 (l_ 34),e_ 7 38 (.bsl 68 18 1 [.int 1 (.ofNat 0),.int 1 (.ofNat 0),.int 2 (.ofNat 0),.int 3 (.ofNat 0),.int 1 (.ofNat 0),.int 1 (.ofNat 0),.int 1 (.ofNat 0),.int 1 (.ofNat 0),.int 1 (.ofNat 0),.int 1 (.ofNat 0),.int 1 (.ofNat 0),.int 3 (.ofNat 0),.nilS,.int 1 (.ofNat 0),.str [],.nilS,.int 1 (.ofNat 0),.int 2 (.ofNat 0)] [(0,18)] [.t 37]),a_ 4 35 (l_ 34),e_ 8 39 (.app 68 18 104 (.t 35) (.t 38)),p_ 9 40 (n_ 31),p_ 10 41 (f_ 5 40),bm 11 (.st 1 (.t 41) (.t 39))]) (.seq (g_ 2 [p_ 0 42 (m_ 0),c_ 1 43 68 [.t 42]]) (.seq (g_ 1 [p_ 0 4 (.mv (i_ 0))]) .ret))))) [(0,[.up 4]),(1,[.up 4])])
theorem xS:aW Tryz.prog 47 AL=true:=by kernel_rfl
structure uh where
 l:List Ke
 com:Int
 c0:Int
 c1:Int
 me:Int
 x:Ke
structure tO where
 z:Int
noncomputable def zB (p:uh):IE:=([.ptr 0 0,gK p.x.v p.x.w],(vJ p.l p.com p.c0 p.c1 p.me),4)
noncomputable def NN (p:uh) (K:KE):Bool:=ah fun r:tO=>K (.sy (.int 0 r.z)) (vJ p.l p.com p.c0 p.c1 p.me) 4
def rU (p:uh):Prop:=1≤p.me
theorem abi (p:uh) (K:KE) (hpre:rU p) (hK:NN p K=true):(aY 1 (bg xE) bp 600 AL (zB p).1 (zB p).2.1 (zB p).2.2 K)=true:=by
 refine Eq.trans (b:=(let z0:Bool:=(K (.sy (.int 0 1)) (vJ p.l p.com p.c0 p.c1 p.me) 4);ac (qL [qI 1 p.me]) (iP (p.me=(0:Int)) (iP (p.x.v<(16:Int)) (iP ((0:Int)<p.x.w) (iP ((400:Int)≤(p.l.length:Int)) (K (.sy (.int 0 11)) (vJ p.l p.com p.c0 p.c1 p.me) 4) (mP (((.prow 2 p.l.length):SY)=(.prow 2 p.l.length)) (mP (((.prow 2 p.l.length):SY)=(.prow 2 p.l.length)) (mP (p.l.length=p.l.length) (ax fun m1:List Ke=>mP (bz (m1.map ai) [[.int 1 (.ofNat 2),.int 1 (.ofNat 0),.int 2 (.ofNat 0),.int 3 (.ofNat 0),.int 1 (.ofNat 0),.int 1 (.ofNat 0),.int 1 (.ofNat 0),.int 1 (.ofNat 0),.int 1 (.ofNat 0),.int 1 (.ofNat 0),.int 1 (.ofNat 0),.int 3 (.ofNat 0),.nilS,.int 1 (.ofNat 0),.str [],.nilS,.sint 1 p.x.v,.sint 2 p.x.w]]) (mP (aC 104 (p.l.length+m1.length)) (ax fun p1:fV=>mP (([.ptr 0 0],(Rm2 (p.l++m1) p.com p.c0 p.c1 p.me ((p.l++m1).length)),4)=lG p1) (ah fun r1:oC=>iP (gV p1 r1) (K (.sy (.int 0 0)) (ir p1.l r1.com (p1.l.length:Int) p1.c1) 4) true)))))))) z0) z0) z0))) (by kernel_rfl) ?_
 dsimp only[rU]at hpre
 have u1:=hpre
 refine aG (by simp[qL,qI,qS,qY,aF]) ?_
 refine iI (fun hc1=> ?_) (fun hc1=> ?_)
 refine iI (fun hc2=> ?_) (fun hc2=> ?_)
 refine iI (fun hc3=> ?_) (fun hc3=> ?_)
 refine iI (fun hc4=> ?_) (fun hc4=> ?_)
 exact au hK (⟨(11:Int)⟩:tO)
 refine aK (aK (aK ?_))
 refine aH ([⟨p.x.v,p.x.w⟩]:List Ke) ?_
 refine mI (show bz (([⟨p.x.v,p.x.w⟩]:List Ke).map ai) [[.int 1 (.ofNat 2),.int 1 (.ofNat 0),.int 2 (.ofNat 0),.int 3 (.ofNat 0),.int 1 (.ofNat 0),.int 1 (.ofNat 0),.int 1 (.ofNat 0),.int 1 (.ofNat 0),.int 1 (.ofNat 0),.int 1 (.ofNat 0),.int 1 (.ofNat 0),.int 3 (.ofNat 0),.nilS,.int 1 (.ofNat 0),.str [],.nilS,.sint 1 p.x.v,.sint 2 p.x.w]] from cR _) (mI (by(try dsimp only);(first|omega|(simp[aC]<;>omega))) ?_)
 exfalso;omega
 exact au hK (⟨(1:Int)⟩:tO)
 exact au hK (⟨(1:Int)⟩:tO)
 exact au hK (⟨(1:Int)⟩:tO)
noncomputable def IQ:aM:=bn (fun us M=>bC (Nat.beq (ca M 1) 2) (ig (cD M 0 3))) (be zB (cm rU NN)) Mj
theorem Rc:aX Tryz.prog 47 1 IQ:=aD (bi (f:=47) (k:=1) (ay yu) xS (by rfl) (by rfl) abi) VQ
noncomputable def DO:=aZ xE 1 IQ 47 [(0,4),(1,15)]
theorem DN:aE Tryz.prog DO:=az Rc yu
def SH:XF:=AL
theorem Vr:aW Tryz.prog 47 SH=true:=xS
structure ug where
 l:List Ke
 com:Int
 c0:Int
 c1:Int
 c2:Int
 me:Int
 x:Ke
structure tN where
 z:Int
noncomputable def zA (p:ug):IE:=([.ptr 0 0,gK p.x.v p.x.w],(vI p.l p.com p.c0 p.c1 p.c2 p.me),4)
noncomputable def NM (p:ug) (K:KE):Bool:=ah fun r:tN=>K (.sy (.int 0 r.z)) (vI p.l p.com p.c0 p.c1 p.c2 p.me) 4
def rT (p:ug):Prop:=1≤p.me
theorem abh (p:ug) (K:KE) (hpre:rT p) (hK:NM p K=true):(aY 1 (bg DO) bp 600 SH (zA p).1 (zA p).2.1 (zA p).2.2 K)=true:=by
 refine Eq.trans (b:=(let z0:Bool:=(K (.sy (.int 0 1)) (vI p.l p.com p.c0 p.c1 p.c2 p.me) 4);ac (qL [qI 1 p.me]) (iP (p.me=(0:Int)) (iP (p.x.v<(16:Int)) (iP ((0:Int)<p.x.w) (iP ((400:Int)≤(p.l.length:Int)) (K (.sy (.int 0 11)) (vI p.l p.com p.c0 p.c1 p.c2 p.me) 4) (mP (((.prow 2 p.l.length):SY)=(.prow 2 p.l.length)) (mP (((.prow 2 p.l.length):SY)=(.prow 2 p.l.length)) (mP (p.l.length=p.l.length) (ax fun m1:List Ke=>mP (bz (m1.map ai) [[.int 1 (.ofNat 2),.int 1 (.ofNat 0),.int 2 (.ofNat 0),.int 3 (.ofNat 0),.int 1 (.ofNat 0),.int 1 (.ofNat 0),.int 1 (.ofNat 0),.int 1 (.ofNat 0),.int 1 (.ofNat 0),.int 1 (.ofNat 0),.int 1 (.ofNat 0),.int 3 (.ofNat 0),.nilS,.int 1 (.ofNat 0),.str [],.nilS,.sint 1 p.x.v,.sint 2 p.x.w]]) (mP (aC 104 (p.l.length+m1.length)) (ax fun p1:eP=>mP (([.ptr 0 0],(Rm3 (p.l++m1) p.com p.c0 p.c1 p.c2 p.me ((p.l++m1).length)),4)=je p1) (ah fun r1:lv=>iP (fj p1 r1) (K (.sy (.int 0 0)) (gG p1.l r1.com (p1.l.length:Int) p1.c1 p1.c2) 4) true)))))))) z0) z0) z0))) (by kernel_rfl) ?_
 dsimp only[rT]at hpre
 have u1:=hpre
 refine aG (by simp[qL,qI,qS,qY,aF]) ?_
 refine iI (fun hc1=> ?_) (fun hc1=> ?_)
 refine iI (fun hc2=> ?_) (fun hc2=> ?_)
 refine iI (fun hc3=> ?_) (fun hc3=> ?_)
 refine iI (fun hc4=> ?_) (fun hc4=> ?_)
 exact au hK (⟨(11:Int)⟩:tN)
 refine aK (aK (aK ?_))
 refine aH ([⟨p.x.v,p.x.w⟩]:List Ke) ?_
 refine mI (show bz (([⟨p.x.v,p.x.w⟩]:List Ke).map ai) [[.int 1 (.ofNat 2),.int 1 (.ofNat 0),.int 2 (.ofNat 0),.int 3 (.ofNat 0),.int 1 (.ofNat 0),.int 1 (.ofNat 0),.int 1 (.ofNat 0),.int 1 (.ofNat 0),.int 1 (.ofNat 0),.int 1 (.ofNat 0),.int 1 (.ofNat 0),.int 3 (.ofNat 0),.nilS,.int 1 (.ofNat 0),.str [],.nilS,.sint 1 p.x.v,.sint 2 p.x.w]] from cR _) (mI (by(try dsimp only);(first|omega|(simp[aC]<;>omega))) ?_)
 exfalso;omega
 exact au hK (⟨(1:Int)⟩:tN)
 exact au hK (⟨(1:Int)⟩:tN)
 exact au hK (⟨(1:Int)⟩:tN)
noncomputable def IP:aM:=bn (fun us M=>bC (Nat.beq (ca M 1) 3) (ig (cD M 0 3))) (be zA (cm rT NM)) IQ
theorem Rb:aX Tryz.prog 47 1 IP:=aD (bi (f:=47) (k:=1) (ay DN) Vr (by rfl) (by rfl) abh) Rc
noncomputable def DM:=aZ DO 1 IP 47 [(0,4),(1,15)]
theorem DL:aE Tryz.prog DM:=az Rb DN
def SG:XF:=AL
theorem Vq:aW Tryz.prog 47 SG=true:=xS
structure uf where
 l:List Ke
 com:Int
 c0:Int
 c1:Int
 c2:Int
 c3:Int
 me:Int
 x:Ke
structure tM where
 z:Int
noncomputable def zy (p:uf):IE:=([.ptr 0 0,gK p.x.v p.x.w],(vH p.l p.com p.c0 p.c1 p.c2 p.c3 p.me),4)
noncomputable def NL (p:uf) (K:KE):Bool:=ah fun r:tM=>K (.sy (.int 0 r.z)) (vH p.l p.com p.c0 p.c1 p.c2 p.c3 p.me) 4
def rS (p:uf):Prop:=1≤p.me
theorem abg (p:uf) (K:KE) (hpre:rS p) (hK:NL p K=true):(aY 1 (bg DM) bp 600 SG (zy p).1 (zy p).2.1 (zy p).2.2 K)=true:=by
 refine Eq.trans (b:=(let z0:Bool:=(K (.sy (.int 0 1)) (vH p.l p.com p.c0 p.c1 p.c2 p.c3 p.me) 4);ac (qL [qI 1 p.me]) (iP (p.me=(0:Int)) (iP (p.x.v<(16:Int)) (iP ((0:Int)<p.x.w) (iP ((400:Int)≤(p.l.length:Int)) (K (.sy (.int 0 11)) (vH p.l p.com p.c0 p.c1 p.c2 p.c3 p.me) 4) (mP (((.prow 2 p.l.length):SY)=(.prow 2 p.l.length)) (mP (((.prow 2 p.l.length):SY)=(.prow 2 p.l.length)) (mP (p.l.length=p.l.length) (ax fun m1:List Ke=>mP (bz (m1.map ai) [[.int 1 (.ofNat 2),.int 1 (.ofNat 0),.int 2 (.ofNat 0),.int 3 (.ofNat 0),.int 1 (.ofNat 0),.int 1 (.ofNat 0),.int 1 (.ofNat 0),.int 1 (.ofNat 0),.int 1 (.ofNat 0),.int 1 (.ofNat 0),.int 1 (.ofNat 0),.int 3 (.ofNat 0),.nilS,.int 1 (.ofNat 0),.str [],.nilS,.sint 1 p.x.v,.sint 2 p.x.w]]) (mP (aC 104 (p.l.length+m1.length)) (ax fun p1:dZ=>mP (([.ptr 0 0],(Rm4 (p.l++m1) p.com p.c0 p.c1 p.c2 p.c3 p.me ((p.l++m1).length)),4)=hQ p1) (ah fun r1:jd=>iP (eh p1 r1) (K (.sy (.int 0 0)) (fH p1.l r1.com (p1.l.length:Int) p1.c1 p1.c2 p1.c3) 4) true)))))))) z0) z0) z0))) (by kernel_rfl) ?_
 dsimp only[rS]at hpre
 have u1:=hpre
 refine aG (by simp[qL,qI,qS,qY,aF]) ?_
 refine iI (fun hc1=> ?_) (fun hc1=> ?_)
 refine iI (fun hc2=> ?_) (fun hc2=> ?_)
 refine iI (fun hc3=> ?_) (fun hc3=> ?_)
 refine iI (fun hc4=> ?_) (fun hc4=> ?_)
 exact au hK (⟨(11:Int)⟩:tM)
 refine aK (aK (aK ?_))
 refine aH ([⟨p.x.v,p.x.w⟩]:List Ke) ?_
 refine mI (show bz (([⟨p.x.v,p.x.w⟩]:List Ke).map ai) [[.int 1 (.ofNat 2),.int 1 (.ofNat 0),.int 2 (.ofNat 0),.int 3 (.ofNat 0),.int 1 (.ofNat 0),.int 1 (.ofNat 0),.int 1 (.ofNat 0),.int 1 (.ofNat 0),.int 1 (.ofNat 0),.int 1 (.ofNat 0),.int 1 (.ofNat 0),.int 3 (.ofNat 0),.nilS,.int 1 (.ofNat 0),.str [],.nilS,.sint 1 p.x.v,.sint 2 p.x.w]] from cR _) (mI (by(try dsimp only);(first|omega|(simp[aC]<;>omega))) ?_)
 exfalso;omega
 exact au hK (⟨(1:Int)⟩:tM)
 exact au hK (⟨(1:Int)⟩:tM)
 exact au hK (⟨(1:Int)⟩:tM)
noncomputable def Tm:aM:=bn (fun us M=>bC (Nat.beq (ca M 1) 4) (ig (cD M 0 3))) (be zy (cm rS NL)) IP
theorem abR:aX Tryz.prog 47 1 Tm:=aD (bi (f:=47) (k:=1) (ay DL) Vq (by rfl) (by rfl) abg) Rb
noncomputable def DK:=aZ DM 1 Tm 47 [(0,4),(1,15)]
theorem DJ:aE Tryz.prog DK:=az abR DL
def la:XF:=.mk 19 (.one 4) (.aft (.seq (g_ 2 [e_ 0 3 (.box 68 (.t 1)),p_ 1 4 (.mv (i_ 0))]) (.seq (.block 2 (.seq (g_ 3 [p_ 0 6 (m_ 0),c_ 1 7 32 [.t 6],p_ 2 5 (m_ 7)]) (.cond (.t 5) (.seq (g_ 1 [p_ 0 4 (.mv (i_ 1))]) .ret) (.seq (g_ 4 [p_ 0 9 (m_ 0),c_ 1 10 19 [.t 9],p_ 2 11 (.un 0 (.t 10)),p_ 3 8 (m_ 11)]) (.cond (.t 8) (.seq (g_ 1 [p_ 0 4 (.mv (i_ 15))]) .ret) .skip))))) (.seq (h_ 8 [p_ 0 12 (m_ 0),p_ 1 13 (n_ 12),p_ 2 14 (f_ 0 13),p_ 3 15 (f_ 3 14),r_ 4 16 (l_ 15),r_ 5 17 (.ld true 18 (.t 3)),c_ 6 18 47 [.t 16,.t 17],p_ 7 4 (m_ 18)]) .ret))) [(0,[.up 4]),(1,[.up 4])])
theorem ik:aW Tryz.prog 24 la=true:=by kernel_rfl
structure ue where
 l:List Ke
 com:Int
 c0:Int
 c1:Int
 me:Int
 x:Ke
structure yR where
 z:Int
noncomputable def yZ (p:ue):IE:=([.ptr 0 0,gK p.x.v p.x.w],(dJ p.l p.com p.c0 p.c1 p.me),10)
noncomputable def Ny (p:ue) (K:KE):Bool:=ah fun r:yR=>K (.sy (.int 0 r.z)) (dJ p.l p.com p.c0 p.c1 p.me) 10
def rN (p:ue):Prop:=1≤p.me∧p.me<2
theorem aaI (p:ue) (K:KE) (hpre:rN p) (hK:Ny p K=true):(aY 1 (bg DK) bp 600 la (yZ p).1 (yZ p).2.1 (yZ p).2.2 K)=true:=by
 refine Eq.trans (b:=(iP (p.me<(16:Int)) (iP (p.me<(16:Int)) (ax fun p1:uh=>mP (([.ptr 0 0,gK p.x.v p.x.w],(vJ p.l p.com p.c0 p.c1 p.me),4)=zB p1) (mP (rU p1) (ah fun r1:tO=>K (.sy (.int 0 r1.z)) (.node (.node (.node (.node .leaf (some (.prow 68 18 Ke p1.l ai)) .leaf) (some (bA)) .leaf) (some (bN)) (.node (.node .leaf (some (bN)) .leaf) (some (bV 2 9)) .leaf)) (some (bS 2 1 2 3 4 5 (.sy (.int 1 p.me)))) (.node (.node (.node .leaf (some (.map [(.agg bu,.sy (.int 0 p1.c0),0),(.agg bK,.sy (.int 0 p1.c1),1)] 2)) .leaf) (some (bN)) .leaf) (some (bR 2 6 7 8 (.sy (.int 1 p1.me)) p1.l.length p1.com)) (.node .leaf (some (bN)) .leaf))) 10))) (K (.sy (.int 0 15)) (dJ p.l p.com p.c0 p.c1 p.me) 10)) (K (.sy (.int 0 1)) (dJ p.l p.com p.c0 p.c1 p.me) 10))) (by kernel_rfl) ?_
 dsimp only[rN]at hpre
 obtain⟨u1,u2⟩:=hpre
 refine iI (fun hc1=> ?_) (fun hc1=> ?_)
 refine iI (fun hc2=> ?_) (fun hc2=> ?_)
 refine aP (⟨p.l,p.com,p.c0,p.c1,p.me,p.x⟩:uh) rfl (by(try dsimp only[rU]);omega) ?_
 refine aj (fun r1=> ?_)
 exact au hK (⟨r1.z⟩:yR)
 exact au hK (⟨(15:Int)⟩:yR)
 exact au hK (⟨(1:Int)⟩:yR)
noncomputable def Ij:aM:=bn (fun us M=>bC (Nat.beq (ca M 1) 2) (ig (cD M 0 8))) (be yZ (cm rN Ny)) (fun _ _ _ _=>false)
theorem QA:aX Tryz.prog 24 1 Ij:=aD (bi (f:=24) (k:=1) (ay DJ) ik (by rfl) (by rfl) aaI) dT
noncomputable def CY:=aZ DK 1 Ij 24 [(0,4),(1,15)]
theorem CX:aE Tryz.prog CY:=az QA DJ
def RN:XF:=la
theorem UN:aW Tryz.prog 24 RN=true:=ik
structure oE where
 l:List Ke
 com:Int
 c0:Int
 c1:Int
 c2:Int
 me:Int
 x:Ke
structure tL where
 z:Int
noncomputable def tQ (p:oE):IE:=([.ptr 0 0,gK p.x.v p.x.w],(dm p.l p.com p.c0 p.c1 p.c2 p.me),10)
noncomputable def Nx (p:oE) (K:KE):Bool:=ah fun r:tL=>K (.sy (.int 0 r.z)) (dm p.l p.com p.c0 p.c1 p.c2 p.me) 10
def kx (p:oE):Prop:=1≤p.me∧p.me<3
theorem aaH (p:oE) (K:KE) (hpre:kx p) (hK:Nx p K=true):(aY 1 (bg CY) bp 600 RN (tQ p).1 (tQ p).2.1 (tQ p).2.2 K)=true:=by
 refine Eq.trans (b:=(iP (p.me<(16:Int)) (iP (p.me<(16:Int)) (ax fun p1:ug=>mP (([.ptr 0 0,gK p.x.v p.x.w],(vI p.l p.com p.c0 p.c1 p.c2 p.me),4)=zA p1) (mP (rT p1) (ah fun r1:tN=>K (.sy (.int 0 r1.z)) (.node (.node (.node (.node .leaf (some (.prow 68 18 Ke p1.l ai)) .leaf) (some (bA)) .leaf) (some (bE)) (.node (.node .leaf (some (bE)) .leaf) (some (bV 3 9)) .leaf)) (some (bS 3 1 2 3 4 5 (.sy (.int 1 p.me)))) (.node (.node (.node .leaf (some (.map [(.agg bu,.sy (.int 0 p1.c0),0),(.agg bK,.sy (.int 0 p1.c1),1),(.agg cQ,.sy (.int 0 p1.c2),2)] 3)) .leaf) (some (bE)) .leaf) (some (bR 3 6 7 8 (.sy (.int 1 p1.me)) p1.l.length p1.com)) (.node .leaf (some (bE)) .leaf))) 10))) (K (.sy (.int 0 15)) (dm p.l p.com p.c0 p.c1 p.c2 p.me) 10)) (K (.sy (.int 0 1)) (dm p.l p.com p.c0 p.c1 p.c2 p.me) 10))) (by kernel_rfl) ?_
 dsimp only[kx]at hpre
 obtain⟨u1,u2⟩:=hpre
 refine iI (fun hc1=> ?_) (fun hc1=> ?_)
 refine iI (fun hc2=> ?_) (fun hc2=> ?_)
 refine aP (⟨p.l,p.com,p.c0,p.c1,p.c2,p.me,p.x⟩:ug) rfl (by(try dsimp only[rT]);omega) ?_
 refine aj (fun r1=> ?_)
 exact au hK (⟨r1.z⟩:tL)
 exact au hK (⟨(15:Int)⟩:tL)
 exact au hK (⟨(1:Int)⟩:tL)
noncomputable def Ii:aM:=bn (fun us M=>bC (Nat.beq (ca M 1) 3) (ig (cD M 0 8))) (be tQ (cm kx Nx)) Ij
theorem Qz:aX Tryz.prog 24 1 Ii:=aD (bi (f:=24) (k:=1) (ay CX) UN (by rfl) (by rfl) aaH) QA
noncomputable def CW:=aZ CY 1 Ii 24 [(0,4),(1,15)]
theorem CV:aE Tryz.prog CW:=az Qz CX
def RM:XF:=la
theorem UM:aW Tryz.prog 24 RM=true:=ik
structure jY where
 l:List Ke
 com:Int
 c0:Int
 c1:Int
 c2:Int
 c3:Int
 me:Int
 x:Ke
structure qE where
 z:Int
noncomputable def qH (p:jY):IE:=([.ptr 0 0,gK p.x.v p.x.w],(cV p.l p.com p.c0 p.c1 p.c2 p.c3 p.me),10)
noncomputable def Nw (p:jY) (K:KE):Bool:=ah fun r:qE=>K (.sy (.int 0 r.z)) (cV p.l p.com p.c0 p.c1 p.c2 p.c3 p.me) 10
def gP (p:jY):Prop:=1≤p.me∧p.me<4
theorem aaG (p:jY) (K:KE) (hpre:gP p) (hK:Nw p K=true):(aY 1 (bg CW) bp 600 RM (qH p).1 (qH p).2.1 (qH p).2.2 K)=true:=by
 refine Eq.trans (b:=(iP (p.me<(16:Int)) (iP (p.me<(16:Int)) (ax fun p1:uf=>mP (([.ptr 0 0,gK p.x.v p.x.w],(vH p.l p.com p.c0 p.c1 p.c2 p.c3 p.me),4)=zy p1) (mP (rS p1) (ah fun r1:tM=>K (.sy (.int 0 r1.z)) (.node (.node (.node (.node .leaf (some (.prow 68 18 Ke p1.l ai)) .leaf) (some (bA)) .leaf) (some (bw)) (.node (.node .leaf (some (bw)) .leaf) (some (bV 4 9)) .leaf)) (some (bS 4 1 2 3 4 5 (.sy (.int 1 p.me)))) (.node (.node (.node .leaf (some (.map [(.agg bu,.sy (.int 0 p1.c0),0),(.agg bK,.sy (.int 0 p1.c1),1),(.agg cQ,.sy (.int 0 p1.c2),2),(.agg fx,.sy (.int 0 p1.c3),3)] 4)) .leaf) (some (bw)) .leaf) (some (bR 4 6 7 8 (.sy (.int 1 p1.me)) p1.l.length p1.com)) (.node .leaf (some (bw)) .leaf))) 10))) (K (.sy (.int 0 15)) (cV p.l p.com p.c0 p.c1 p.c2 p.c3 p.me) 10)) (K (.sy (.int 0 1)) (cV p.l p.com p.c0 p.c1 p.c2 p.c3 p.me) 10))) (by kernel_rfl) ?_
 dsimp only[gP]at hpre
 obtain⟨u1,u2⟩:=hpre
 refine iI (fun hc1=> ?_) (fun hc1=> ?_)
 refine iI (fun hc2=> ?_) (fun hc2=> ?_)
 refine aP (⟨p.l,p.com,p.c0,p.c1,p.c2,p.c3,p.me,p.x⟩:uf) rfl (by(try dsimp only[rS]);omega) ?_
 refine aj (fun r1=> ?_)
 exact au hK (⟨r1.z⟩:qE)
 exact au hK (⟨(15:Int)⟩:qE)
 exact au hK (⟨(1:Int)⟩:qE)
noncomputable def Ih:aM:=bn (fun us M=>bC (Nat.beq (ca M 1) 4) (ig (cD M 0 8))) (be qH (cm gP Nw)) Ii
theorem Qy:aX Tryz.prog 24 1 Ih:=aD (bi (f:=24) (k:=1) (ay CV) UM (by rfl) (by rfl) aaG) Qz
noncomputable def CU:=aZ CW 1 Ih 24 [(0,4),(1,15)]
theorem CT:aE Tryz.prog CU:=az Qy CV
def RL:XF:=la
theorem UL:aW Tryz.prog 24 RL=true:=ik
structure ra where
 l:List Ke
 com:Int
 c0:Int
 x:Ke
structure MV where
 z:Int
 l:List Ke
 com:Int
 c0:Int
def uE (p:ra) (r:MV):Prop:=r.l=p.l++[p.x]∧r.c0=(r.l.length:Int)∧comR 1 p.com r.com [r.c0]
noncomputable def yY (p:ra):IE:=([.ptr 0 0,gK p.x.v p.x.w],(dI p.l p.com p.c0),10)
noncomputable def Ca (p:ra) (K:KE):Bool:=ah fun r:MV=>iP (uE p r) (K (.sy (.int 0 r.z)) (dI r.l r.com r.c0) 10) true
def rM (p:ra):Prop:=0≤p.x.v∧p.x.v≤15∧1≤p.x.w∧p.l.length<400
theorem ZQ {p:ra} {K:KE} (hK:Ca p K=true) (r:MV) (h:uE p r):K (.sy (.int 0 r.z)) (dI r.l r.com r.c0) 10=true:=aA h (au hK r)
theorem aaF (p:ra) (K:KE) (hpre:rM p) (hK:Ca p K=true):(aY 1 (bg CU) bp 600 RL (yY p).1 (yY p).2.1 (yY p).2.2 K)=true:=by
 refine Eq.trans (b:=(bf (([.ptr 0 0,gK p.x.v p.x.w],(sU p.l p.com p.c0),4)) EH ux og fun p1 r1=>K (.sy (.int 0 r1.z)) (dI r1.l r1.com r1.c0) 10)) (by kernel_rfl) ?_
 dsimp only[rM]at hpre
 have u1:=hpre
 refine aB (⟨p.l,p.com,p.c0,p.x⟩:we) rfl (by(try dsimp only[ux]);omega) fun r1 hi1=> ?_
 dsimp only[og]at hi1
 exact ZQ hK ⟨r1.z,r1.l,r1.com,r1.c0⟩ (by dsimp only[uE]<;>assumption)
noncomputable def Ig:aM:=bn (fun us M=>bC (Nat.beq (ca M 1) 1) (cD M 0 8)) (be yY (cm rM Ca)) Ih
theorem Qx:aX Tryz.prog 24 1 Ig:=aD (bi (f:=24) (k:=1) (ay CT) UL (by rfl) (by rfl) aaF) Qy
noncomputable def CS:=aZ CU 1 Ig 24 [(0,4),(1,15)]
theorem CR:aE Tryz.prog CS:=az Qx CT
def RK:XF:=la
theorem UK:aW Tryz.prog 24 RK=true:=ik
structure qZ where
 l:List Ke
 com:Int
 c0:Int
 c1:Int
 x:Ke
structure MU where
 z:Int
 l:List Ke
 com:Int
 c0:Int
def uD (p:qZ) (r:MU):Prop:=r.l=p.l++[p.x]∧r.c0=(r.l.length:Int)∧comR 2 p.com r.com [r.c0,p.c1]
noncomputable def yX (p:qZ):IE:=([.ptr 0 0,gK p.x.v p.x.w],(dB p.l p.com p.c0 p.c1),10)
noncomputable def BZ (p:qZ) (K:KE):Bool:=ah fun r:MU=>iP (uD p r) (K (.sy (.int 0 r.z)) (dB r.l r.com r.c0 p.c1) 10) true
def rL (p:qZ):Prop:=0≤p.x.v∧p.x.v≤15∧1≤p.x.w∧p.l.length<400
theorem ZP {p:qZ} {K:KE} (hK:BZ p K=true) (r:MU) (h:uD p r):K (.sy (.int 0 r.z)) (dB r.l r.com r.c0 p.c1) 10=true:=aA h (au hK r)
theorem aaE (p:qZ) (K:KE) (hpre:rL p) (hK:BZ p K=true):(aY 1 (bg CS) bp 600 RK (yX p).1 (yX p).2.1 (yX p).2.2 K)=true:=by
 refine Eq.trans (b:=(bf (([.ptr 0 0,gK p.x.v p.x.w],(ir p.l p.com p.c0 p.c1),4)) EG uw oe fun p1 r1=>K (.sy (.int 0 r1.z)) (dB r1.l r1.com r1.c0 p1.c1) 10)) (by kernel_rfl) ?_
 dsimp only[rL]at hpre
 have u1:=hpre
 refine aB (⟨p.l,p.com,p.c0,p.c1,p.x⟩:wc) rfl (by(try dsimp only[uw]);omega) fun r1 hi1=> ?_
 dsimp only[oe]at hi1
 exact ZP hK ⟨r1.z,r1.l,r1.com,r1.c0⟩ (by dsimp only[uD]<;>assumption)
noncomputable def If:aM:=bn (fun us M=>bC (Nat.beq (ca M 1) 2) (cD M 0 8)) (be yX (cm rL BZ)) Ig
theorem Qw:aX Tryz.prog 24 1 If:=aD (bi (f:=24) (k:=1) (ay CR) UK (by rfl) (by rfl) aaE) Qx
noncomputable def CQ:=aZ CS 1 If 24 [(0,4),(1,15)]
theorem CP:aE Tryz.prog CQ:=az Qw CR
def RJ:XF:=la
theorem UJ:aW Tryz.prog 24 RJ=true:=ik
structure qX where
 l:List Ke
 com:Int
 c0:Int
 c1:Int
 c2:Int
 x:Ke
structure MT where
 z:Int
 l:List Ke
 com:Int
 c0:Int
def uC (p:qX) (r:MT):Prop:=r.l=p.l++[p.x]∧r.c0=(r.l.length:Int)∧comR 2 p.com r.com [r.c0,p.c1,p.c2]
noncomputable def yW (p:qX):IE:=([.ptr 0 0,gK p.x.v p.x.w],(dA p.l p.com p.c0 p.c1 p.c2),10)
noncomputable def BY (p:qX) (K:KE):Bool:=ah fun r:MT=>iP (uC p r) (K (.sy (.int 0 r.z)) (dA r.l r.com r.c0 p.c1 p.c2) 10) true
def rK (p:qX):Prop:=0≤p.x.v∧p.x.v≤15∧1≤p.x.w∧p.l.length<400
theorem ZO {p:qX} {K:KE} (hK:BY p K=true) (r:MT) (h:uC p r):K (.sy (.int 0 r.z)) (dA r.l r.com r.c0 p.c1 p.c2) 10=true:=aA h (au hK r)
theorem aaD (p:qX) (K:KE) (hpre:rK p) (hK:BY p K=true):(aY 1 (bg CQ) bp 600 RJ (yW p).1 (yW p).2.1 (yW p).2.2 K)=true:=by
 refine Eq.trans (b:=(bf (([.ptr 0 0,gK p.x.v p.x.w],(gG p.l p.com p.c0 p.c1 p.c2),4)) EF uv nZ fun p1 r1=>K (.sy (.int 0 r1.z)) (dA r1.l r1.com r1.c0 p1.c1 p1.c2) 10)) (by kernel_rfl) ?_
 dsimp only[rK]at hpre
 have u1:=hpre
 refine aB (⟨p.l,p.com,p.c0,p.c1,p.c2,p.x⟩:wb) rfl (by(try dsimp only[uv]);omega) fun r1 hi1=> ?_
 dsimp only[nZ]at hi1
 exact ZO hK ⟨r1.z,r1.l,r1.com,r1.c0⟩ (by dsimp only[uC]<;>assumption)
noncomputable def Ie:aM:=bn (fun us M=>bC (Nat.beq (ca M 1) 3) (cD M 0 8)) (be yW (cm rK BY)) If
theorem Qv:aX Tryz.prog 24 1 Ie:=aD (bi (f:=24) (k:=1) (ay CP) UJ (by rfl) (by rfl) aaD) Qw
noncomputable def CO:=aZ CQ 1 Ie 24 [(0,4),(1,15)]
theorem CN:aE Tryz.prog CO:=az Qv CP
def RI:XF:=la
theorem UI:aW Tryz.prog 24 RI=true:=ik
structure qW where
 l:List Ke
 com:Int
 c0:Int
 c1:Int
 c2:Int
 c3:Int
 x:Ke
structure MS where
 z:Int
 l:List Ke
 com:Int
 c0:Int
def uB (p:qW) (r:MS):Prop:=r.l=p.l++[p.x]∧r.c0=(r.l.length:Int)∧comR 3 p.com r.com [r.c0,p.c1,p.c2,p.c3]
noncomputable def yV (p:qW):IE:=([.ptr 0 0,gK p.x.v p.x.w],(dz p.l p.com p.c0 p.c1 p.c2 p.c3),10)
noncomputable def BX (p:qW) (K:KE):Bool:=ah fun r:MS=>iP (uB p r) (K (.sy (.int 0 r.z)) (dz r.l r.com r.c0 p.c1 p.c2 p.c3) 10) true
def rJ (p:qW):Prop:=0≤p.x.v∧p.x.v≤15∧1≤p.x.w∧p.l.length<400
theorem ZN {p:qW} {K:KE} (hK:BX p K=true) (r:MS) (h:uB p r):K (.sy (.int 0 r.z)) (dz r.l r.com r.c0 p.c1 p.c2 p.c3) 10=true:=aA h (au hK r)
theorem aaC (p:qW) (K:KE) (hpre:rJ p) (hK:BX p K=true):(aY 1 (bg CO) bp 600 RI (yV p).1 (yV p).2.1 (yV p).2.2 K)=true:=by
 refine Eq.trans (b:=(bf (([.ptr 0 0,gK p.x.v p.x.w],(fH p.l p.com p.c0 p.c1 p.c2 p.c3),4)) EE uu nY fun p1 r1=>K (.sy (.int 0 r1.z)) (dz r1.l r1.com r1.c0 p1.c1 p1.c2 p1.c3) 10)) (by kernel_rfl) ?_
 dsimp only[rJ]at hpre
 have u1:=hpre
 refine aB (⟨p.l,p.com,p.c0,p.c1,p.c2,p.c3,p.x⟩:wa) rfl (by(try dsimp only[uu]);omega) fun r1 hi1=> ?_
 dsimp only[nY]at hi1
 exact ZN hK ⟨r1.z,r1.l,r1.com,r1.c0⟩ (by dsimp only[uB]<;>assumption)
noncomputable def SZ:aM:=bn (fun us M=>bC (Nat.beq (ca M 1) 4) (cD M 0 8)) (be yV (cm rJ BX)) Ie
theorem abK:aX Tryz.prog 24 1 SZ:=aD (bi (f:=24) (k:=1) (ay CN) UI (by rfl) (by rfl) aaC) Qv
noncomputable def oh:=aZ CO 1 SZ 24 [(0,4),(1,15)]
theorem kO:aE Tryz.prog oh:=az abK CN
def tI:XC:=(.aft (.seq (g_ 3 [p_ 0 68 (f_ 0 3),r_ 1 69 (l_ 68),p_ 2 70 (.bin 3 5 (.t 69) (i_ 5))]) (.cond (.t 70) (h_ 20 [p_ 0 71 (m_ 0),p_ 2 73 (m_ 0),p_ 3 74 (n_ 73),p_ 4 75 (f_ 2 74),r_ 5 76 (l_ 75),p_ 6 77 (m_ 8),r_ 7 78 (.sls 33 (.t 76) none (some (.t 77)) none),p_ 9 80 (m_ 0),p_ 10 81 (n_ 80),p_ 11 82 (f_ 2 81),r_ 12 83 (l_ 82),p_ 13 84 (m_ 8),p_ 14 85 (.bin 0 0 (.t 84) (i_ 1)),r_ 15 86 (.sls 33 (.t 83) (some (.t 85)) none none),e_ 1 72 (.bsl 76 33 0 [] [] []),a_ 5 76 (l_ 75),a_ 7 78 (.sls 33 (.t 76) none (some (.t 77)) none),a_ 12 83 (l_ 82),a_ 15 86 (.sls 33 (.t 83) (some (.t 85)) none none),e_ 8 79 (.app 76 33 232 (.t 72) (.t 78)),a_ 12 83 (l_ 82),a_ 15 86 (.sls 33 (.t 83) (some (.t 85)) none none),e_ 16 87 (.app 76 33 232 (.t 79) (.t 86)),p_ 17 88 (n_ 71),p_ 18 89 (f_ 2 88),bm 19 (.st 1 (.t 89) (.t 87))]) .skip)) [(0,[.cell 0 0 2 76 33 Fl cw,.tail 0 0 2,.can 1 [0,3,9]])])
def MH:XC:=(.aft (.seq (.seq (g_ 2 [p_ 0 51 (m_ 7),p_ 1 52 (.bin 3 4 (.t 51) (i_ 0))]) (.cond (.t 52) .ret .skip)) (.seq (g_ 9 [p_ 0 53 (f_ 3 3),r_ 1 54 (l_ 53),p_ 2 55 (m_ 7),p_ 3 56 (.bin 0 4 (.t 54) (.t 55)),p_ 4 57 (m_ 7),p_ 5 58 (.bin 0 0 (.t 56) (.t 57)),p_ 6 59 (m_ 7),p_ 7 60 (.bin 0 4 (.t 58) (.t 59)),p_ 8 8 (m_ 60)]) (.seq (g_ 9 [p_ 0 61 (m_ 0),p_ 1 62 (n_ 61),p_ 2 63 (f_ 2 62),r_ 3 64 (l_ 63),p_ 4 65 (m_ 8),p_ 5 66 (.ixs 33 (.t 64) (.t 65)),r_ 6 67 (.ld true 33 (.t 66)),e_ 7 9 (.al 76 [.int 0 (.ofNat 0),.int 0 (.ofNat 0),.int 1 (.ofNat 0),.int 1 (.ofNat 0),.int 1 (.ofNat 0),.int 3 (.ofNat 0),.int 3 (.ofNat 0),.int 3 (.ofNat 0),.int 3 (.ofNat 0),.int 4 (.ofNat 0),.int 4 (.ofNat 0),.int 1 (.ofNat 0),.int 2 (.ofNat 0),.int 3 (.ofNat 0),.int 1 (.ofNat 0),.int 1 (.ofNat 0),.int 1 (.ofNat 0),.int 1 (.ofNat 0),.int 1 (.ofNat 0),.int 1 (.ofNat 0),.int 1 (.ofNat 0),.nilS,.int 1 (.ofNat 0),.str [],.int 1 (.ofNat 0),.int 3 (.ofNat 0),.nilS,.int 1 (.ofNat 0),.int 2 (.ofNat 0),.bool false,.nilS,.nilS,.nilS]),bm 8 (.st 33 (.t 9) (.t 67))]) (.seq (.pre [.can 1 [0,3,8,9]] (.spc 0 tI)) (.seq (g_ 3 [p_ 0 90 (f_ 0 3),r_ 1 91 (l_ 90),p_ 2 92 (.bin 3 5 (.t 91) (i_ 6))]) (.cond (.t 92) (g_ 3 [p_ 0 93 (m_ 0),r_ 1 94 (.ld true 33 (.t 9)),c_ 2 95 29 [.t 93,.t 94]]) .skip)))))) [(0,[.can 1 []]),(1,[.can 1 []])])
def MA:XC:=(.aft (.seq (.seq (g_ 2 [p_ 0 168 (m_ 10),p_ 1 169 (.bin 3 0 (.t 168) (i_ 10))]) (.cond (.t 169) .skip (.exit 3))) (.seq (.block 4 (.pre [.fix 5 1] (g_ 3 [p_ 0 172 (m_ 0),p_ 1 173 (m_ 5),c_ 2 174 28 [.t 172,.t 173]]))) (g_ 3 [p_ 0 170 (m_ 10),p_ 1 171 (.bin 0 0 (.t 170) (i_ 1)),p_ 2 10 (m_ 171)]))) [(0,[.up 5,.can 1 [0,5,10]]),(3,[.can 1 []])])
def RR:XF:=.mk 175 .none (.seq (g_ 1 [e_ 0 3 (.box 28 (.t 1))]) (.seq (g_ 6 [p_ 0 11 (m_ 0),p_ 1 12 (n_ 11),p_ 2 13 (f_ 0 12),r_ 3 14 (l_ 13),p_ 4 15 (k_ 14),p_ 5 4 (m_ 15)]) (.seq (g_ 9 [p_ 0 16 (f_ 1 3),r_ 1 17 (l_ 16),p_ 2 18 (m_ 4),p_ 3 19 (.bin 0 4 (.t 17) (.t 18)),p_ 4 20 (m_ 4),p_ 5 21 (.bin 0 0 (.t 19) (.t 20)),p_ 6 22 (m_ 4),p_ 7 23 (.bin 0 4 (.t 21) (.t 22)),p_ 8 5 (m_ 23)]) (.seq (g_ 9 [p_ 0 24 (f_ 2 3),r_ 1 25 (l_ 24),p_ 2 26 (m_ 4),p_ 3 27 (.bin 0 4 (.t 25) (.t 26)),p_ 4 28 (m_ 4),p_ 5 29 (.bin 0 0 (.t 27) (.t 28)),p_ 6 30 (m_ 4),p_ 7 31 (.bin 0 4 (.t 29) (.t 30)),p_ 8 6 (m_ 31)]) (.seq (g_ 6 [p_ 0 32 (m_ 0),p_ 1 33 (n_ 32),p_ 2 34 (f_ 2 33),r_ 3 35 (l_ 34),p_ 4 36 (k_ 35),p_ 5 7 (m_ 36)]) (.seq (g_ 2 [p_ 0 37 (f_ 0 3),r_ 1 38 (l_ 37)]) (.block 2 (.seq (g_ 2 [p_ 0 40 (.bin 3 4 (.t 38) (i_ 0)),p_ 1 39 (m_ 40)]) (.cond (.t 39) (.pre [.fix 5 1] (g_ 3 [p_ 0 41 (m_ 0),p_ 1 42 (m_ 5),c_ 2 43 28 [.t 41,.t 42]])) (.seq (.seq (g_ 2 [p_ 0 45 (.bin 3 4 (.t 38) (i_ 1)),p_ 1 44 (m_ 45)]) (.cond (.t 44) .skip (.seq (g_ 2 [p_ 0 46 (.bin 3 4 (.t 38) (i_ 2)),p_ 1 44 (m_ 46)]) (.cond (.t 44) .skip (.seq (g_ 2 [p_ 0 47 (.bin 3 4 (.t 38) (i_ 3)),p_ 1 44 (m_ 47)]) (.cond (.t 44) .skip (.seq (g_ 2 [p_ 0 48 (.bin 3 4 (.t 38) (i_ 4)),p_ 1 44 (m_ 48)]) (.cond (.t 44) .skip (.seq (g_ 2 [p_ 0 49 (.bin 3 4 (.t 38) (i_ 5)),p_ 1 44 (m_ 49)]) (.cond (.t 44) .skip (g_ 2 [p_ 0 50 (.bin 3 4 (.t 38) (i_ 6)),p_ 1 44 (m_ 50)]))))))))))) (.cond (.t 44) (.pre [.can 1 [0,3,7]] (.spc 1 MH)) (.seq (g_ 2 [p_ 0 97 (.bin 3 4 (.t 38) (i_ 7)),p_ 1 96 (m_ 97)]) (.cond (.t 96) (.pre [.fix 5 1] (.seq (g_ 8 [p_ 0 98 (m_ 0),p_ 1 99 (n_ 98),p_ 2 100 (f_ 1 99),r_ 3 101 (l_ 100),p_ 4 102 (m_ 5),p_ 5 103 (.ixs 1 (.t 101) (.t 102)),r_ 6 104 (l_ 103),p_ 7 105 (.un 0 (.t 104))]) (.cond (.t 105) (.seq (g_ 8 [p_ 0 106 (m_ 0),p_ 1 107 (n_ 106),p_ 2 108 (f_ 4 107),r_ 3 109 (l_ 108),p_ 4 110 (.bin 0 0 (.t 109) (i_ 1)),p_ 5 111 (n_ 106),p_ 6 112 (f_ 4 111),bm 7 (.st 1 (.t 112) (.t 110))]) (h_ 13 [p_ 0 113 (m_ 0),p_ 1 114 (n_ 113),p_ 2 115 (f_ 0 114),r_ 3 116 (l_ 115),p_ 4 117 (m_ 5),p_ 5 118 (.ixs 1 (.t 116) (.t 117)),r_ 6 119 (l_ 118),p_ 7 120 (m_ 0),p_ 8 121 (n_ 120),p_ 9 122 (f_ 4 121),r_ 10 123 (l_ 122),c_ 11 124 25 [.t 123],a_ 3 116 (l_ 115),a_ 6 119 (l_ 118),c_ 12 125 24 [.t 119,.t 124]])) .skip))) (.seq (g_ 2 [p_ 0 127 (.bin 3 4 (.t 38) (i_ 8)),p_ 1 126 (m_ 127)]) (.cond (.t 126) (.pre [.die] (h_ 10 [p_ 0 128 (m_ 0),p_ 1 129 (n_ 128),p_ 2 130 (f_ 0 129),r_ 3 131 (l_ 130),p_ 4 132 (m_ 5),p_ 5 133 (.ixs 1 (.t 131) (.t 132)),r_ 6 134 (l_ 133),p_ 7 135 (m_ 6),c_ 8 136 21 [.t 135],a_ 3 131 (l_ 130),a_ 6 134 (l_ 133),c_ 9 137 20 [.t 134,.t 136]])) (.seq (g_ 2 [p_ 0 139 (.bin 3 4 (.t 38) (i_ 9)),p_ 1 138 (m_ 139)]) (.cond (.t 138) (.pre [.die] (g_ 8 [p_ 0 140 (m_ 0),p_ 1 141 (n_ 140),p_ 2 142 (f_ 0 141),r_ 3 143 (l_ 142),p_ 4 144 (m_ 5),p_ 5 145 (.ixs 1 (.t 143) (.t 144)),r_ 6 146 (l_ 145),c_ 7 147 17 [.t 146]])) (.seq (g_ 2 [p_ 0 149 (.bin 3 4 (.t 38) (i_ 10)),p_ 1 148 (m_ 149)]) (.cond (.t 148) (.pre [.die] (g_ 8 [p_ 0 150 (m_ 0),p_ 1 151 (n_ 150),p_ 2 152 (f_ 0 151),r_ 3 153 (l_ 152),p_ 4 154 (m_ 5),p_ 5 155 (.ixs 1 (.t 153) (.t 154)),r_ 6 156 (l_ 155),c_ 7 157 18 [.t 156]])) (.seq (g_ 2 [p_ 0 159 (.bin 3 4 (.t 38) (i_ 11)),p_ 1 158 (m_ 159)]) (.cond (.t 158) (.pre [.die] (g_ 7 [p_ 0 160 (m_ 0),p_ 1 161 (n_ 160),p_ 2 162 (f_ 1 161),r_ 3 163 (l_ 162),p_ 4 164 (m_ 5),p_ 5 165 (.ixs 1 (.t 163) (.t 164)),bm 6 (.st 1 (.t 165) (.c (.bool true)))])) (.seq (g_ 2 [p_ 0 167 (.bin 3 4 (.t 38) (i_ 12)),p_ 1 166 (m_ 167)]) (.cond (.t 166) (.seq (g_ 1 [p_ 0 10 (.mv (i_ 0))]) (.block 3 (.pre [.can 1 [0,5,10],.up 10,.can 1 [0,5,10]] (.inv 2 MA)))) .skip)))))))))))))))))))))))
theorem UR:aW Tryz.prog 10 RR=true:=by kernel_rfl
structure jN where
 f:G1
 x:Int
 i:Int
structure TY where
 f:G1
def qf (p:jN) (r:TY):Prop:=ef r.f∧r.f.s0.l.length≤r.f.cnt∧r.f.cnt=p.f.cnt∧p.f.now≤r.f.now∧r.f.now≤p.f.now+(10 - p.i)∧(r.f.L.length:Int)≤(p.f.L.length:Int)+3*(10 - p.i)
noncomputable def pL (p:jN):IL:=((.cons 10 (.sy (.int 0 p.i)) (.cons 5 (.sy (.int 0 p.x)) (.cons 0 (.ptr 0 0) .nil))),(cN p.f (p.f.L.length - p.f.a) p.f.s0.l.length),14)
noncomputable def zY (p:jN) (K:KC):Bool:=ah fun r:TY=>iP (qf p r) (K 3 .nil (cN r.f (r.f.L.length - r.f.a) r.f.s0.l.length) 14) true
def na (p:jN):Prop:=ef p.f∧p.f.s0.l.length≤p.f.cnt∧0≤p.f.cnt∧p.f.cnt≤300∧0≤p.f.now∧p.f.now≤100000+p.i∧(p.f.L.length:Int)≤100000+3*p.i∧0≤p.x∧p.x<1∧0≤p.i∧p.i≤10
theorem aci {p:jN} {K:KC} (hK:zY p K=true) (r:TY) (h:qf p r):K 3 .nil (cN r.f (r.f.L.length - r.f.a) r.f.s0.l.length) 14=true:=aA h (au hK r)
noncomputable def Fb (p:jN) (K:KC):Bool:=ac (aF (na p)) (zY p K)
structure qa where
 f:G1
 s:Sg
 t:Fl
 j:Int
structure Uc where
 L:List Fl
 a:Nat
 o:Nat
 cp:Nat
def lS (p:qa) (r:Uc):Prop:=r.a≤r.L.length∧r.L.length≤p.f.L.length+400∧(r.L.drop r.a).length≤400∧∀x,x∈r.L.drop r.a→x∈p.f.L.drop p.f.a
noncomputable def sO (p:qa):IL:=((.cons 9 (.ptr 2 0) (.cons 8 (.sy (.int 0 p.j)) (.cons 3 (.ptr 1 0) (.cons 0 (.ptr 0 0) .nil)))),(Lm p.f p.s p.t (p.f.L.length - p.f.a) p.f.s0.l.length),16)
noncomputable def Hs (p:qa) (K:KC):Bool:=ah fun r:Uc=>iP (lS p r) (K 0 (.cons 9 (.ptr 2 0) (.cons 3 (.ptr 1 0) (.cons 0 (.ptr 0 0) .nil))) (Lm ({p.f with L:=r.L,a:=r.a,o:=r.o,cp:=r.cp}:G1) p.s p.t (r.L.length - r.a) p.f.s0.l.length) 16) true
def uq (p:qa):Prop:=ef p.f∧0≤p.j∧p.j<((p.f.L.length - p.f.a:Nat):Int)
theorem vt {p:qa} {K:KC} (hK:Hs p K=true) (r:Uc) (h:lS p r):K 0 (.cons 9 (.ptr 2 0) (.cons 3 (.ptr 1 0) (.cons 0 (.ptr 0 0) .nil))) (Lm ({p.f with L:=r.L,a:=r.a,o:=r.o,cp:=r.cp}:G1) p.s p.t (r.L.length - r.a) p.f.s0.l.length) 16=true:=aA h (au hK r)
noncomputable def aeq (p:qa) (K:KC):Bool:=ac (aF (uq p)) (Hs p K)
structure eB where
 f:G1
 s:Sg
 kk:Int
structure pB where
 f:G1
structure mw where
 f:G1
def qk (p:eB) (r:pB):Prop:=ef r.f∧r.f.s0.l.length≤r.f.cnt∧p.f.cnt≤r.f.cnt∧r.f.cnt≤p.f.cnt+1∧p.f.now≤r.f.now∧r.f.now≤p.f.now+10∧r.f.L.length≤p.f.L.length+440
def nm (p:eB) (r:mw):Prop:=ef r.f∧r.f.s0.l.length≤r.f.cnt∧p.f.cnt≤r.f.cnt∧r.f.cnt≤p.f.cnt+1∧p.f.now≤r.f.now∧r.f.now≤p.f.now+10∧r.f.L.length≤p.f.L.length+440
noncomputable def iW (p:eB):IL:=((.cons 7 (.sy (.int 0 p.kk)) (.cons 3 (.ptr 1 0) (.cons 0 (.ptr 0 0) .nil))),(Ut p.f p.s (p.f.L.length - p.f.a) p.f.s0.l.length),15)
noncomputable def Ql (p:eB) (K:KC):Bool:=ac (ah fun r:pB=>iP (qk p r) (K 0 .nil (cN r.f (r.f.L.length - r.f.a) r.f.s0.l.length) 14) true) (ah fun r:mw=>iP (nm p r) (K 1 .nil (cN r.f (r.f.L.length - r.f.a) r.f.s0.l.length) 14) true)
def ep (p:eB):Prop:=ef p.f∧p.f.s0.l.length≤p.f.cnt∧0≤p.f.cnt∧p.f.cnt≤300∧0≤p.f.now∧p.f.now≤100000∧p.f.L.length≤100000∧1≤p.s.k∧p.s.k≤6∧p.kk=((p.f.L.length - p.f.a:Nat):Int)
noncomputable def aeu (p:eB) (K:KC):Bool:=ac (aF (ep p)) (Ql p K)
noncomputable def kY:gB:=fun j S M nx K=>(Bool.rec ((Bool.rec ((Bool.rec (false) (ax fun p:eB=>ac (aF ((S,M,nx)=iW p)) (aeu p K)) (Nat.beq j 1))) (ax fun p:qa=>ac (aF ((S,M,nx)=sO p)) (aeq p K)) (Nat.beq j 0))) (ax fun p:jN=>ac (aF ((S,M,nx)=pL p)) (Fb p K)) (Nat.beq j 2))
theorem adL (p:qa) (K:KC) (hpre:uq p) (hK:Hs p K=true):(cC (bg oh) kY 600 tI (sO p).1 (sO p).2.1 (sO p).2.2 K)=true:=by
 refine Eq.trans (b:=(iP (¬p.s.k=(5:Int)) (mP (0≤(0:Int)∧(0:Int)≤p.j∧p.j≤((p.f.L.length - p.f.a:Nat):Int)) (mP (aL 0 (p.j+(1:Int))) (mP (0≤(p.j+(1:Int))∧(p.j+(1:Int))≤((p.f.L.length - p.f.a:Nat):Int)∧((p.f.L.length - p.f.a:Nat):Int)≤((p.f.L.length - p.f.a:Nat):Int)) (mP (((.psub 5 33 p.f.a (p.f.L.length - p.f.a) p.f.o (some p.f.cp)):SY)=(.psub 5 33 p.f.a (p.f.L.length - p.f.a) p.f.o (some p.f.cp))) (mP (0≤(0:Int)∧(0:Int)≤p.j∧p.j≤((p.f.L.length - p.f.a:Nat):Int)) (mP (((.psub 5 33 p.f.a p.j.toNat (if p.f.cp=p.f.a then p.f.o else p.f.a*33) (some p.f.cp)):SY)=(.psub 5 33 p.f.a p.j.toNat (if p.f.cp=p.f.a then p.f.o else p.f.a*33) (some p.f.cp))) (mP (((.psub 5 33 p.f.a (p.f.L.length - p.f.a) p.f.o (some p.f.cp)):SY)=(.psub 5 33 p.f.a (p.f.L.length - p.f.a) p.f.o (some p.f.cp))) (mP (0≤(p.j+(1:Int))∧(p.j+(1:Int))≤((p.f.L.length - p.f.a:Nat):Int)∧((p.f.L.length - p.f.a:Nat):Int)≤((p.f.L.length - p.f.a:Nat):Int)) (mP (((.psub 5 33 (p.f.a+((p.j+(1:Int)).toNat)) ((p.f.L.length - p.f.a) - ((p.j+(1:Int)).toNat)) (if p.f.cp=p.f.a then p.f.o else p.f.a*33) (some p.f.cp)):SY)=(.psub 5 33 (p.f.a+((p.j+(1:Int)).toNat)) ((p.f.L.length - p.f.a) - ((p.j+(1:Int)).toNat)) (if p.f.cp=p.f.a then p.f.o else p.f.a*33) (some p.f.cp))) (mP (p.f.a+p.j.toNat≤p.f.L.length) (iP (((p.f.L.drop p.f.a).take p.j.toNat)=[]) (mP (((.psub 5 33 p.f.a (p.f.L.length - p.f.a) p.f.o (some p.f.cp)):SY)=(.psub 5 33 p.f.a (p.f.L.length - p.f.a) p.f.o (some p.f.cp))) (mP (0≤(p.j+(1:Int))∧(p.j+(1:Int))≤((p.f.L.length - p.f.a:Nat):Int)∧((p.f.L.length - p.f.a:Nat):Int)≤((p.f.L.length - p.f.a:Nat):Int)) (mP (((.psub 5 33 (p.f.a+((p.j+(1:Int)).toNat)) ((p.f.L.length - p.f.a) - ((p.j+(1:Int)).toNat)) (if p.f.cp=p.f.a then p.f.o else p.f.a*33) (some p.f.cp)):SY)=(.psub 5 33 (p.f.a+((p.j+(1:Int)).toNat)) ((p.f.L.length - p.f.a) - ((p.j+(1:Int)).toNat)) (if p.f.cp=p.f.a then p.f.o else p.f.a*33) (some p.f.cp))) (mP ((p.f.a+((p.j+(1:Int)).toNat))+((p.f.L.length - p.f.a) - ((p.j+(1:Int)).toNat))≤p.f.L.length) (iP (((p.f.L.drop (p.f.a+((p.j+(1:Int)).toNat))).take ((p.f.L.length - p.f.a) - ((p.j+(1:Int)).toNat)))=[]) (mP ((.sl 16 0 0 (.ex 0):AV)=(.sl 16 0 0 (.ex 0):AV)) (mP (0=([]:List Fl).length) (ah fun u1:Nat=>K 0 (.cons 9 (.ptr 2 0) (.cons 3 (.ptr 1 0) (.cons 0 (.ptr 0 0) .nil))) (Lm ({p.f with L:=([]:List Fl),a:=(0:Nat),o:=(0:Nat),cp:=u1}:G1) p.s p.t 0 p.f.s0.l.length) 16))) (mP (aC 232 ((p.f.L.drop (p.f.a+((p.j+(1:Int)).toNat))).take ((p.f.L.length - p.f.a) - ((p.j+(1:Int)).toNat))).length) (mP ((((p.f.L.drop (p.f.a+((p.j+(1:Int)).toNat))).take ((p.f.L.length - p.f.a) - ((p.j+(1:Int)).toNat))).length)=((p.f.L.drop (p.f.a+((p.j+(1:Int)).toNat))).take ((p.f.L.length - p.f.a) - ((p.j+(1:Int)).toNat))).length) (ah fun u2:Nat=>K 0 (.cons 9 (.ptr 2 0) (.cons 3 (.ptr 1 0) (.cons 0 (.ptr 0 0) .nil))) (Lm ({p.f with L:=(p.f.L.drop (p.f.a+((p.j+(1:Int)).toNat))).take ((p.f.L.length - p.f.a) - ((p.j+(1:Int)).toNat)),a:=(0:Nat),o:=(0:Nat),cp:=u2}:G1) p.s p.t (((p.f.L.drop (p.f.a+((p.j+(1:Int)).toNat))).take ((p.f.L.length - p.f.a) - ((p.j+(1:Int)).toNat))).length) p.f.s0.l.length) 16)))))))) (mP (aC 232 ((p.f.L.drop p.f.a).take p.j.toNat).length) (mP (((.psub 5 33 p.f.a (p.f.L.length - p.f.a) p.f.o (some p.f.cp)):SY)=(.psub 5 33 p.f.a (p.f.L.length - p.f.a) p.f.o (some p.f.cp))) (mP (0≤(p.j+(1:Int))∧(p.j+(1:Int))≤((p.f.L.length - p.f.a:Nat):Int)∧((p.f.L.length - p.f.a:Nat):Int)≤((p.f.L.length - p.f.a:Nat):Int)) (mP (((.psub 5 33 (p.f.a+((p.j+(1:Int)).toNat)) ((p.f.L.length - p.f.a) - ((p.j+(1:Int)).toNat)) (if p.f.cp=p.f.a then p.f.o else p.f.a*33) (some p.f.cp)):SY)=(.psub 5 33 (p.f.a+((p.j+(1:Int)).toNat)) ((p.f.L.length - p.f.a) - ((p.j+(1:Int)).toNat)) (if p.f.cp=p.f.a then p.f.o else p.f.a*33) (some p.f.cp))) (mP ((p.f.a+((p.j+(1:Int)).toNat))+((p.f.L.length - p.f.a) - ((p.j+(1:Int)).toNat))≤p.f.L.length) (mP ((((p.f.L.drop p.f.a).take p.j.toNat).length)=((p.f.L.drop p.f.a).take p.j.toNat).length) (iP (((p.f.L.drop (p.f.a+((p.j+(1:Int)).toNat))).take ((p.f.L.length - p.f.a) - ((p.j+(1:Int)).toNat)))=[]) (mP ((((p.f.L.drop p.f.a).take p.j.toNat).length)=((p.f.L.drop p.f.a).take p.j.toNat).length) (ah fun u4:Nat=>K 0 (.cons 9 (.ptr 2 0) (.cons 3 (.ptr 1 0) (.cons 0 (.ptr 0 0) .nil))) (Lm ({p.f with L:=(p.f.L.drop p.f.a).take p.j.toNat,a:=(0:Nat),o:=(0:Nat),cp:=u4}:G1) p.s p.t (((p.f.L.drop p.f.a).take p.j.toNat).length) p.f.s0.l.length) 16)) (ax fun m1:List Fl=>mP (bz (m1.map cw) (((p.f.L.drop (p.f.a+((p.j+(1:Int)).toNat))).take ((p.f.L.length - p.f.a) - ((p.j+(1:Int)).toNat))).map cw)) (mP (aC 232 (((p.f.L.drop p.f.a).take p.j.toNat).length+m1.length)) (mP (((((p.f.L.drop p.f.a).take p.j.toNat)++m1).length)=(((p.f.L.drop p.f.a).take p.j.toNat)++m1).length) (ah fun u3:Nat=>K 0 (.cons 9 (.ptr 2 0) (.cons 3 (.ptr 1 0) (.cons 0 (.ptr 0 0) .nil))) (Lm ({p.f with L:=((p.f.L.drop p.f.a).take p.j.toNat)++m1,a:=(0:Nat),o:=(0:Nat),cp:=u3}:G1) p.s p.t ((((p.f.L.drop p.f.a).take p.j.toNat)++m1).length) p.f.s0.l.length) 16)))))))))))))))))))))) (K 0 (.cons 9 (.ptr 2 0) (.cons 3 (.ptr 1 0) (.cons 0 (.ptr 0 0) .nil))) (Lm p.f p.s p.t (p.f.L.length - p.f.a) p.f.s0.l.length) 16))) (by kernel_rfl) ?_
 dsimp only[uq]at hpre
 obtain⟨hinv,k1,k2⟩:=hpre
 have hI:FInv p.f.s0 _ _ (p.f.L.drop p.f.a):=hinv.1
 obtain⟨a0,a1,a2,a3⟩:=wF hinv
 have few:=hI.few
 have few2:=few
 rw[akG]at few2
 refine iI (fun hc1=> ?_) (fun hc1=> ?_)
 refine mI (by(first|omega|(simp[aC]<;>omega))) (aQ (mI (by(first|omega|(simp[aC]<;>omega))) (aK (mI (by(first|omega|(simp[aC]<;>omega))) (aK (aK (mI (by(first|omega|(simp[aC]<;>omega))) (aK (mI (by(first|omega|(simp[aC]<;>omega))) ?_)))))))))
 refine iI (fun hc2=> ?_) (fun hc2=> ?_)
 have hc2l:(((p.f.L.drop p.f.a).take p.j.toNat)).length=0:=(by rw[hc2];rfl)
 refine aK (mI (by(first|omega|(simp[aC]<;>omega))) (aK (mI (by(first|omega|(simp[aC]<;>omega))) ?_)))
 refine iI (fun hc3=> ?_) (fun hc3=> ?_)
 have hc3l:(((p.f.L.drop (p.f.a+((p.j+(1:Int)).toNat))).take ((p.f.L.length - p.f.a) - ((p.j+(1:Int)).toNat)))).length=0:=(by rw[hc3];rfl)
 refine aK (aK ?_)
 refine aj (fun u1=> ?_)
 exact vt hK ⟨([]:List Fl),(0:Nat),(0:Nat),u1⟩ (by dsimp only[lS]<;>(refine⟨Nat.zero_le _,?_,?_,fun x hx=> ?_⟩<;>first|(simp only[akk,aky,akG,akn];omega)|exact cj x hx (by omega)|exact List.mem_of_mem_take hx|(exact cj (i:=0) (n:=_) x (by simpa using hx) (by omega))|(simp at hx;done)))
 have hc3l:0<(((p.f.L.drop (p.f.a+((p.j+(1:Int)).toNat))).take ((p.f.L.length - p.f.a) - ((p.j+(1:Int)).toNat)))).length:=List.length_pos_iff.2 hc3
 refine mI (by first|(simp only[aC,akk,aky,akG];omega)|(simp only[aC,akl,akn];omega)|(simp only[akl,akn]at*;unfold aC;omega)) (aK ?_)
 refine aj (fun u2=> ?_)
 exact vt hK ⟨(p.f.L.drop (p.f.a+((p.j+(1:Int)).toNat))).take ((p.f.L.length - p.f.a) - ((p.j+(1:Int)).toNat)),(0:Nat),(0:Nat),u2⟩ (by dsimp only[lS]<;>(refine⟨Nat.zero_le _,?_,?_,fun x hx=> ?_⟩<;>first|(simp only[akk,aky,akG,akn];omega)|exact cj x hx (by omega)|exact List.mem_of_mem_take hx|(exact cj (i:=0) (n:=_) x (by simpa using hx) (by omega))|(simp at hx;done)))
 have hc2l:0<(((p.f.L.drop p.f.a).take p.j.toNat)).length:=List.length_pos_iff.2 hc2
 refine mI (by first|(simp only[aC,akk,aky,akG];omega)|(simp only[aC,akl,akn];omega)|(simp only[akl,akn]at*;unfold aC;omega)) (aK (mI (by(first|omega|(simp[aC]<;>omega))) (aK (mI (by(first|omega|(simp[aC]<;>omega))) (aK ?_)))))
 refine iI (fun hc4=> ?_) (fun hc4=> ?_)
 have hc4l:(((p.f.L.drop (p.f.a+((p.j+(1:Int)).toNat))).take ((p.f.L.length - p.f.a) - ((p.j+(1:Int)).toNat)))).length=0:=(by rw[hc4];rfl)
 refine aK ?_
 refine aj (fun u4=> ?_)
 exact vt hK ⟨(p.f.L.drop p.f.a).take p.j.toNat,(0:Nat),(0:Nat),u4⟩ (by dsimp only[lS]<;>(refine⟨Nat.zero_le _,?_,?_,fun x hx=> ?_⟩<;>first|(simp only[akk,aky,akG,akn];omega)|exact cj x hx (by omega)|exact List.mem_of_mem_take hx|(exact cj (i:=0) (n:=_) x (by simpa using hx) (by omega))|(simp at hx;done)))
 have hc4l:0<(((p.f.L.drop (p.f.a+((p.j+(1:Int)).toNat))).take ((p.f.L.length - p.f.a) - ((p.j+(1:Int)).toNat)))).length:=List.length_pos_iff.2 hc4
 refine aH ((p.f.L.drop (p.f.a+((p.j+(1:Int)).toNat))).take ((p.f.L.length - p.f.a) - ((p.j+(1:Int)).toNat))) ?_
 refine mI (show bz (((p.f.L.drop (p.f.a+((p.j+(1:Int)).toNat))).take ((p.f.L.length - p.f.a) - ((p.j+(1:Int)).toNat))).map cw) (((p.f.L.drop (p.f.a+((p.j+(1:Int)).toNat))).take ((p.f.L.length - p.f.a) - ((p.j+(1:Int)).toNat))).map cw) from cR _) (mI (by(try dsimp only);first|(simp only[aC,akk,aky,akG];omega)|(simp only[aC,akl,akn];omega)|(simp only[akl,akn]at*;unfold aC;omega)) ?_)
 refine aK ?_
 refine aj (fun u3=> ?_)
 exact vt hK ⟨((p.f.L.drop p.f.a).take p.j.toNat)++((p.f.L.drop (p.f.a+((p.j+(1:Int)).toNat))).take ((p.f.L.length - p.f.a) - ((p.j+(1:Int)).toNat))),(0:Nat),(0:Nat),u3⟩ (by dsimp only[lS]<;>(refine⟨Nat.zero_le _,?_,?_,fun x hx=> ?_⟩<;>first|(simp only[akk,aky,akG,akn];omega)|exact cj x hx (by omega)|exact List.mem_of_mem_take hx|(exact cj (i:=0) (n:=_) x (by simpa using hx) (by omega))|(simp at hx;done)))
 exact vt hK ⟨p.f.L,p.f.a,p.f.o,p.f.cp⟩ (by dsimp only[lS]<;>exact⟨a0,by omega,few,fun _ h=>h⟩)
theorem ae6:dp Tryz.prog 175 1 kY false 0 tI:=by
 refine mO (lf:=600) bD (ay kO) (by rfl) (fun b j x h=>by cases h) (fun S M nx K h=> ?_)
 obtain⟨p,h⟩:=bJ h
 obtain⟨e,h9⟩:=ae h
 clear h
 have e1:S=(sO p).1:=congrArg Prod.fst e
 have e2:M=(sO p).2.1:=congrArg (fun x=>x.2.1) e
 have e3:nx=(sO p).2.2:=congrArg (fun x=>x.2.2) e
 subst e1;subst e2;subst e3
 exact adL p K (ae h9).1 (ae h9).2
theorem adP (p:eB) (K:KC) (hpre:ep p) (hK:Ql p K=true):(cC (bg oh) kY 600 MH (iW p).1 (iW p).2.1 (iW p).2.2 K)=true:=by
 refine Eq.trans (b:=(let y0:Int:=(Int.tmod ((Int.tmod p.s.i p.kk)+p.kk) p.kk);iP (p.kk=(0:Int)) (K 1 .nil (cN p.f (p.f.L.length - p.f.a) p.f.s0.l.length) 14) (mP (p.kk≠0) (mP (aL 0 ((Int.tmod p.s.i p.kk)+p.kk)) (mP (p.kk≠0) (mP (0≤y0∧y0<((p.f.L.length - p.f.a:Nat):Int)) (mP ((p.f.a+(y0.toNat))<p.f.L.length) (ah fun x1:Fl=>iP (p.f.L[p.f.a+(y0.toNat)]?=some x1) (bf (((.cons 9 (.ptr 2 0) (.cons 8 (.sy (.int 0 y0)) (.cons 3 (.ptr 1 0) (.cons 0 (.ptr 0 0) .nil)))),(Lm p.f p.s x1 (p.f.L.length - p.f.a) p.f.s0.l.length),16)) sO uq lS fun p1 r1=>iP (¬p1.s.k=(6:Int)) (false) (K 0 .nil (cN ({p1.f with L:=r1.L,a:=r1.a,o:=r1.o,cp:=r1.cp}:G1) (r1.L.length - r1.a) p1.f.s0.l.length) 14)) true)))))))) (by kernel_rfl) ?_
 obtain⟨hK0,hKr0⟩:=aq hK
 have hK1:=hKr0
 dsimp only[ep]at hpre
 obtain⟨hinv,y1,y2,y3,y4,y5,y6,y7,y8,y9⟩:=hpre
 have hI:FInv p.f.s0 _ _ (p.f.L.drop p.f.a):=hinv.1
 obtain⟨a0,a1,a2,a3⟩:=wF hinv
 have t6:=tmk p.kk p.s.i
 have t7:=Xp p.kk p.s.i
 have hz:=adn hI
 refine iI (fun hc1=> ?_) (fun hc1=> ?_)
 exact aA (show ef p.f∧p.f.s0.l.length≤p.f.cnt∧p.f.cnt≤p.f.cnt∧p.f.cnt≤p.f.cnt+1∧p.f.now≤p.f.now∧p.f.now≤p.f.now+10∧p.f.L.length≤p.f.L.length+440 from(by first|(exfalso;omega)|exact⟨hinv,by omega,by omega,by omega,by omega,by omega,by omega⟩)) (au hK1 (⟨p.f⟩:mw))
 refine cZ (aQ (cZ (gy (cZ ?_))))
 refine aj (fun x1=> ?_)
 refine iI (fun hi2=> ?_) (fun _=>rfl)
 refine aB (⟨p.f,p.s,x1,Int.tmod ((Int.tmod p.s.i p.kk)+p.kk) p.kk⟩:qa) rfl (by(try dsimp only[uq]);exact⟨hinv,by omega,by omega⟩) fun r1 hi3=> ?_
 dsimp only[lS]at hi3
 refine iI (p:=¬p.s.k=(6:Int)) (fun hc4=> ?_) (fun hc4=> ?_)
 exfalso;omega
 exact aA (show ef ({p.f with L:=r1.L,a:=r1.a,o:=r1.o,cp:=r1.cp}:G1)∧p.f.s0.l.length≤p.f.cnt∧p.f.cnt≤p.f.cnt∧p.f.cnt≤p.f.cnt+1∧p.f.now≤p.f.now∧p.f.now≤p.f.now+10∧r1.L.length≤p.f.L.length+440 from(by have z4:=hi3.2.1;exact⟨ajG hinv hi3,by omega,by omega,by omega,by omega,by omega,by omega⟩)) (au hK0 (⟨({p.f with L:=r1.L,a:=r1.a,o:=r1.o,cp:=r1.cp}:G1)⟩:pB))
theorem afa:dp Tryz.prog 175 1 kY false 1 MH:=by
 refine mO (lf:=600) bD (ay kO) (by rfl) (fun b j x h=>(bZ ae6 (fun h=>(by cases h)) h)) (fun S M nx K h=> ?_)
 obtain⟨p,h⟩:=bJ h
 obtain⟨e,h9⟩:=ae h
 clear h
 have e1:S=(iW p).1:=congrArg Prod.fst e
 have e2:M=(iW p).2.1:=congrArg (fun x=>x.2.1) e
 have e3:nx=(iW p).2.2:=congrArg (fun x=>x.2.2) e
 subst e1;subst e2;subst e3
 exact adP p K (ae h9).1 (ae h9).2
def lY (p:jN):Nat:=(10 - p.i).toNat
noncomputable def WC (s:IL) (n:Nat) (K:KC):Bool:=ax fun q=>mP (s=pL q∧lY q<n) (Fb q K)
theorem afV {p q:jN} {K:KC} {s:IL} (hm:lY q<lY p) (hp:na q) (hK:zY q K=true) (e:s=pL q):WC s (lY p) K=true:=aH q (bT ⟨e,hm⟩ (bT hp hK))
theorem adH (p:jN) (K:KC) (hpre:na p) (hK:zY p K=true):(cC (bg oh) kY 600 MA (pL p).1 (pL p).2.1 (pL p).2.2 (fun e S M nx=>Nat.casesOn e (ax fun q:jN=>ac (aF ((S,M,nx)=pL q∧lY q<lY p)) (Fb q K)) (fun e2=>K (Nat.succ e2) S M nx)))=true:=by
 refine Eq.trans (b:=(iP (p.i<(10:Int)) (iP (p.x=0) (bf (([.ptr 0 0,cE],(cN p.f (p.f.L.length - p.f.a) p.f.s0.l.length),14)) lF fh fF fun p1 r1=>mP (aL 0 (p.i+(1:Int))) (WC ((.cons 10 (.sy (.int 0 (p.i+(1:Int)))) (.cons 5 (.sy (.int 0 0)) (.cons 0 (.ptr 0 0) .nil))),(cN r1.f (r1.f.L.length - r1.f.a) r1.f.s0.l.length),14) (lY p) K)) (mP (False) (true))) (K 3 .nil (cN p.f (p.f.L.length - p.f.a) p.f.s0.l.length) 14))) (by kernel_rfl) ?_
 dsimp only[na]at hpre
 obtain⟨hinv,y1,y2,y3,y4,y5,y6,y7,y8,y9,y10⟩:=hpre
 have hI:FInv p.f.s0 _ _ (p.f.L.drop p.f.a):=hinv.1
 obtain⟨a0,a1,a2,a3⟩:=wF hinv
 refine iI (fun hc1=> ?_) (fun hc1=> ?_)
 refine iI (fun hc2=> ?_) (fun hc2=> ?_)
 refine aB (⟨p.f⟩:ia) rfl (by(try dsimp only[fh]);exact⟨by assumption,by omega,by omega,by omega⟩) fun r1 hi3=> ?_
 dsimp only[fF]at hi3
 refine aQ ?_
 exact afV (q:=⟨r1.f,(0:Int),p.i+(1:Int)⟩) (by dsimp only[lY];omega) (by dsimp only[na];obtain⟨z1,z2,z3,z4⟩:=jZ hi3;exact⟨kr hinv hi3,by omega,by omega,by omega,by omega,by omega,by omega,by omega,by omega,by omega,by omega⟩) (by refine aj fun r=>iI (fun hz=> ?_) (fun _=>rfl);dsimp only[qf]at hz;obtain⟨z1,z2,z3,z4⟩:=jZ hi3;exact aA (show qf p r from⟨hz.1,hz.2.1,by omega,by omega,by omega,by omega⟩) (au hK r)) rfl
 refine cZ ?_
 rfl
 exact aci hK ⟨p.f⟩ (by dsimp only[qf]<;>exact⟨hinv,by omega,by omega,by omega,by omega,by omega⟩)
theorem ae2:dp Tryz.prog 175 1 kY true 2 MA:=by
 exact gD (lf:=600) bD (ay kO) (by rfl) pL lY Fb (fun b j x h=>by cases h) (fun S M nx K h=>by obtain⟨p,h⟩:=bJ h;exact⟨p,(ae h).1,(ae h).2⟩) (fun p K h=>adH p K (ae h).1 (ae h).2)
structure oI where
 f:G1
 s:Sg
structure MZ where
 f:G1
def cU (p:oI) (r:MZ):Prop:=ef r.f∧r.f.s0.l.length≤r.f.cnt∧p.f.cnt≤r.f.cnt∧r.f.cnt≤p.f.cnt+1∧p.f.now≤r.f.now∧r.f.now≤p.f.now+10∧r.f.L.length≤p.f.L.length+440
noncomputable def tU (p:oI):IE:=([.ptr 0 0,.agg [.sy (.int 0 p.s.k),.sy (.int 0 p.s.x),.sy (.int 0 p.s.y),.sy (.int 0 p.s.i)]],(cN p.f (p.f.L.length - p.f.a) p.f.s0.l.length),14)
noncomputable def Ce (p:oI) (K:KE):Bool:=ah fun r:MZ=>iP (cU p r) (K (.tup []) (cN r.f (r.f.L.length - r.f.a) r.f.s0.l.length) 14) true
def kB (p:oI):Prop:=ef p.f∧p.f.s0.l.length≤p.f.cnt∧0≤p.f.cnt∧p.f.cnt≤300∧0≤p.f.now∧p.f.now≤100000∧p.f.L.length≤100000∧(p.s.k<8∨p.s.k=12)
theorem dF {p:oI} {K:KE} (hK:Ce p K=true) (r:MZ) (h:cU p r):K (.tup []) (cN r.f (r.f.L.length - r.f.a) r.f.s0.l.length) 14=true:=aA h (au hK r)
theorem aaM (p:oI) (K:KE) (hpre:kB p) (hK:Ce p K=true):(aY 1 (bg oh) kY 600 RR (tU p).1 (tU p).2.1 (tU p).2.2 K)=true:=by
 refine Eq.trans (b:=(let y0:Int:=(Int.tmod ((Int.tmod p.s.x (1:Int))+(1:Int)) (1:Int));mP ((1:Int)≠0) (mP (aL 0 ((Int.tmod p.s.x (1:Int))+(1:Int))) (mP ((1:Int)≠0) (mP ((1:Int)≠0) (mP (aL 0 ((Int.tmod p.s.y (1:Int))+(1:Int))) (mP ((1:Int)≠0) (iP (p.s.k=(0:Int)) (iP (y0=0) (bf (([.ptr 0 0,cE],(cN p.f (p.f.L.length - p.f.a) p.f.s0.l.length),14)) lF fh fF fun p1 r1=>K (.tup []) (cN r1.f (r1.f.L.length - r1.f.a) r1.f.s0.l.length) 14) (mP (False) (true))) (iP (p.s.k=(1:Int)) (ax fun p2:eB=>mP (((.cons 7 (.sy (.int 0 ((p.f.L.length - p.f.a:Nat):Int))) (.cons 3 (.ptr 1 0) (.cons 0 (.ptr 0 0) .nil))),(Ut p.f p.s (p.f.L.length - p.f.a) p.f.s0.l.length),15)=iW p2) (mP (ep p2) (ac (ah fun r3:pB=>iP (qk p2 r3) (K (.tup []) (cN r3.f (r3.f.L.length - r3.f.a) r3.f.s0.l.length) 14) true) (ah fun r2:mw=>iP (nm p2 r2) (K (.tup []) (cN r2.f (r2.f.L.length - r2.f.a) r2.f.s0.l.length) 14) true)))) (iP (p.s.k=(2:Int)) (ax fun p3:eB=>mP (((.cons 7 (.sy (.int 0 ((p.f.L.length - p.f.a:Nat):Int))) (.cons 3 (.ptr 1 0) (.cons 0 (.ptr 0 0) .nil))),(Ut p.f p.s (p.f.L.length - p.f.a) p.f.s0.l.length),15)=iW p3) (mP (ep p3) (ac (ah fun r5:pB=>iP (qk p3 r5) (K (.tup []) (cN r5.f (r5.f.L.length - r5.f.a) r5.f.s0.l.length) 14) true) (ah fun r4:mw=>iP (nm p3 r4) (K (.tup []) (cN r4.f (r4.f.L.length - r4.f.a) r4.f.s0.l.length) 14) true)))) (iP (p.s.k=(3:Int)) (ax fun p4:eB=>mP (((.cons 7 (.sy (.int 0 ((p.f.L.length - p.f.a:Nat):Int))) (.cons 3 (.ptr 1 0) (.cons 0 (.ptr 0 0) .nil))),(Ut p.f p.s (p.f.L.length - p.f.a) p.f.s0.l.length),15)=iW p4) (mP (ep p4) (ac (ah fun r7:pB=>iP (qk p4 r7) (K (.tup []) (cN r7.f (r7.f.L.length - r7.f.a) r7.f.s0.l.length) 14) true) (ah fun r6:mw=>iP (nm p4 r6) (K (.tup []) (cN r6.f (r6.f.L.length - r6.f.a) r6.f.s0.l.length) 14) true)))) (iP (p.s.k=(4:Int)) (ax fun p5:eB=>mP (((.cons 7 (.sy (.int 0 ((p.f.L.length - p.f.a:Nat):Int))) (.cons 3 (.ptr 1 0) (.cons 0 (.ptr 0 0) .nil))),(Ut p.f p.s (p.f.L.length - p.f.a) p.f.s0.l.length),15)=iW p5) (mP (ep p5) (ac (ah fun r9:pB=>iP (qk p5 r9) (K (.tup []) (cN r9.f (r9.f.L.length - r9.f.a) r9.f.s0.l.length) 14) true) (ah fun r8:mw=>iP (nm p5 r8) (K (.tup []) (cN r8.f (r8.f.L.length - r8.f.a) r8.f.s0.l.length) 14) true)))) (iP (p.s.k=(5:Int)) (ax fun p6:eB=>mP (((.cons 7 (.sy (.int 0 ((p.f.L.length - p.f.a:Nat):Int))) (.cons 3 (.ptr 1 0) (.cons 0 (.ptr 0 0) .nil))),(Ut p.f p.s (p.f.L.length - p.f.a) p.f.s0.l.length),15)=iW p6) (mP (ep p6) (ac (ah fun r11:pB=>iP (qk p6 r11) (K (.tup []) (cN r11.f (r11.f.L.length - r11.f.a) r11.f.s0.l.length) 14) true) (ah fun r10:mw=>iP (nm p6 r10) (K (.tup []) (cN r10.f (r10.f.L.length - r10.f.a) r10.f.s0.l.length) 14) true)))) (iP (p.s.k=(6:Int)) (ax fun p7:eB=>mP (((.cons 7 (.sy (.int 0 ((p.f.L.length - p.f.a:Nat):Int))) (.cons 3 (.ptr 1 0) (.cons 0 (.ptr 0 0) .nil))),(Ut p.f p.s (p.f.L.length - p.f.a) p.f.s0.l.length),15)=iW p7) (mP (ep p7) (ac (ah fun r13:pB=>iP (qk p7 r13) (K (.tup []) (cN r13.f (r13.f.L.length - r13.f.a) r13.f.s0.l.length) 14) true) (ah fun r12:mw=>iP (nm p7 r12) (K (.tup []) (cN r12.f (r12.f.L.length - r12.f.a) r12.f.s0.l.length) 14) true)))) (iP (p.s.k=(7:Int)) (iP (y0=0) (mP (aL 0 (p.f.cnt+(1:Int))) (mP ((16:Int)≠0) (mP (aL 1 (Int.tmod (p.f.cnt+(1:Int)) (16:Int))) (mP ((16:Int)≠0) (mP (aL 0 (Int.tdiv (p.f.cnt+(1:Int)) (16:Int))) (mP (aL 0 ((1:Int)+(Int.tdiv (p.f.cnt+(1:Int)) (16:Int)))) (mP (aL 2 ((1:Int)+(Int.tdiv (p.f.cnt+(1:Int)) (16:Int)))) (bf (([.ptr 0 0,gK (Int.tmod (p.f.cnt+(1:Int)) (16:Int)) ((1:Int)+(Int.tdiv (p.f.cnt+(1:Int)) (16:Int)))],(dI p.f.s0.l p.f.s0.com p.f.c0),10)) yY rM uE fun p8 r14=>K (.tup []) (cN ({p.f with s0:=⟨r14.l,r14.com⟩,c0:=r14.c0,cnt:=p.f.cnt+(1:Int)}:G1) (p.f.L.length - p.f.a) r14.l.length) 14)))))))) (mP (False) (true))) (iP (p.s.k=(8:Int)) (false) (iP (p.s.k=(9:Int)) (false) (iP (p.s.k=(10:Int)) (false) (iP (p.s.k=(11:Int)) (false) (iP (p.s.k=(12:Int)) (bf (((.cons 10 (.sy (.int 0 0)) (.cons 5 (.sy (.int 0 y0)) (.cons 0 (.ptr 0 0) .nil))),(cN p.f (p.f.L.length - p.f.a) p.f.s0.l.length),14)) pL na qf fun p9 r15=>K (.tup []) (cN r15.f (r15.f.L.length - r15.f.a) r15.f.s0.l.length) 14) (K (.tup []) (cN p.f (p.f.L.length - p.f.a) p.f.s0.l.length) 14))))))))))))))))))))) (by kernel_rfl) ?_
 dsimp only[kB]at hpre
 obtain⟨hinv,y1,y2,y3,y4,y5,y6,y7⟩:=hpre
 have hI:FInv p.f.s0 _ _ (p.f.L.drop p.f.a):=hinv.1
 obtain⟨a0,a1,a2,a3⟩:=wF hinv
 have t1:=BJ 1 (by decide) p.s.x
 have t2:=tmp 1 (by decide) (p.s.x.tmod 1+1) (by omega)
 have t3:=BJ 1 (by decide) p.s.y
 have t4:=tmp 1 (by decide) (p.s.y.tmod 1+1) (by omega)
 have t5:=tmp 16 (by decide) (p.f.cnt+1) (by omega)
 have t6:=tdp (p.f.cnt+1) (by omega)
 refine mI (by decide) (aQ (mI (by decide) (mI (by decide) (aQ (mI (by decide) ?_)))))
 refine iI (fun hc1=> ?_) (fun hc1=> ?_)
 refine iI (fun hc2=> ?_) (fun hc2=> ?_)
 refine aB (⟨p.f⟩:ia) rfl (by(try dsimp only[fh]);exact⟨by assumption,by omega,by omega,by omega⟩) fun r1 hi3=> ?_
 dsimp only[fF]at hi3
 exact dF hK ⟨r1.f⟩ (by dsimp only[cU]<;>(first|(exfalso;omega)|exact hi3|(obtain⟨z1,z2,z3,z4⟩:=jZ hi3;exact⟨kr hinv hi3,by omega,by omega,by omega,by omega,by omega,by omega⟩)|(obtain⟨z0,z1,z2,z3,z4,z5⟩:=hi3;exact⟨z0,by omega,by omega,by omega,by omega,by omega,by omega⟩)))
 refine cZ ?_
 rfl
 refine iI (fun hc4=> ?_) (fun hc4=> ?_)
 refine aP (⟨p.f,p.s,((p.f.L.length - p.f.a:Nat):Int)⟩:eB) rfl (by(try dsimp only[ep]);exact⟨by assumption,by omega,by omega,by omega,by omega,by omega,by omega,by omega,by omega,by omega⟩) ?_
 refine aG ?_ ?_
 refine aj (fun r3=> ?_)
 refine iI (p:=ef r3.f∧r3.f.s0.l.length≤r3.f.cnt∧p.f.cnt≤r3.f.cnt∧r3.f.cnt≤p.f.cnt+1∧p.f.now≤r3.f.now∧r3.f.now≤p.f.now+10∧r3.f.L.length≤p.f.L.length+440) (fun hi5=> ?_) (fun _=>rfl)
 exact dF hK ⟨r3.f⟩ (by dsimp only[cU]<;>(first|(exfalso;omega)|exact hi5|(obtain⟨z1,z2,z3,z4⟩:=jZ hi5;exact⟨kr hinv hi5,by omega,by omega,by omega,by omega,by omega,by omega⟩)|(obtain⟨z0,z1,z2,z3,z4,z5⟩:=hi5;exact⟨z0,by omega,by omega,by omega,by omega,by omega,by omega⟩)))
 refine aj (fun r2=> ?_)
 refine iI (p:=ef r2.f∧r2.f.s0.l.length≤r2.f.cnt∧p.f.cnt≤r2.f.cnt∧r2.f.cnt≤p.f.cnt+1∧p.f.now≤r2.f.now∧r2.f.now≤p.f.now+10∧r2.f.L.length≤p.f.L.length+440) (fun hi6=> ?_) (fun _=>rfl)
 exact dF hK ⟨r2.f⟩ (by dsimp only[cU]<;>(first|(exfalso;omega)|exact hi6|(obtain⟨z1,z2,z3,z4⟩:=jZ hi6;exact⟨kr hinv hi6,by omega,by omega,by omega,by omega,by omega,by omega⟩)|(obtain⟨z0,z1,z2,z3,z4,z5⟩:=hi6;exact⟨z0,by omega,by omega,by omega,by omega,by omega,by omega⟩)))
 refine iI (fun hc7=> ?_) (fun hc7=> ?_)
 refine aP (⟨p.f,p.s,((p.f.L.length - p.f.a:Nat):Int)⟩:eB) rfl (by(try dsimp only[ep]);exact⟨by assumption,by omega,by omega,by omega,by omega,by omega,by omega,by omega,by omega,by omega⟩) ?_
 refine aG ?_ ?_
 refine aj (fun r5=> ?_)
 refine iI (p:=ef r5.f∧r5.f.s0.l.length≤r5.f.cnt∧p.f.cnt≤r5.f.cnt∧r5.f.cnt≤p.f.cnt+1∧p.f.now≤r5.f.now∧r5.f.now≤p.f.now+10∧r5.f.L.length≤p.f.L.length+440) (fun hi8=> ?_) (fun _=>rfl)
 exact dF hK ⟨r5.f⟩ (by dsimp only[cU]<;>(first|(exfalso;omega)|exact hi8|(obtain⟨z1,z2,z3,z4⟩:=jZ hi8;exact⟨kr hinv hi8,by omega,by omega,by omega,by omega,by omega,by omega⟩)|(obtain⟨z0,z1,z2,z3,z4,z5⟩:=hi8;exact⟨z0,by omega,by omega,by omega,by omega,by omega,by omega⟩)))
 refine aj (fun r4=> ?_)
 refine iI (p:=ef r4.f∧r4.f.s0.l.length≤r4.f.cnt∧p.f.cnt≤r4.f.cnt∧r4.f.cnt≤p.f.cnt+1∧p.f.now≤r4.f.now∧r4.f.now≤p.f.now+10∧r4.f.L.length≤p.f.L.length+440) (fun hi9=> ?_) (fun _=>rfl)
 exact dF hK ⟨r4.f⟩ (by dsimp only[cU]<;>(first|(exfalso;omega)|exact hi9|(obtain⟨z1,z2,z3,z4⟩:=jZ hi9;exact⟨kr hinv hi9,by omega,by omega,by omega,by omega,by omega,by omega⟩)|(obtain⟨z0,z1,z2,z3,z4,z5⟩:=hi9;exact⟨z0,by omega,by omega,by omega,by omega,by omega,by omega⟩)))
 refine iI (fun hc10=> ?_) (fun hc10=> ?_)
 refine aP (⟨p.f,p.s,((p.f.L.length - p.f.a:Nat):Int)⟩:eB) rfl (by(try dsimp only[ep]);exact⟨by assumption,by omega,by omega,by omega,by omega,by omega,by omega,by omega,by omega,by omega⟩) ?_
 refine aG ?_ ?_
 refine aj (fun r7=> ?_)
 refine iI (p:=ef r7.f∧r7.f.s0.l.length≤r7.f.cnt∧p.f.cnt≤r7.f.cnt∧r7.f.cnt≤p.f.cnt+1∧p.f.now≤r7.f.now∧r7.f.now≤p.f.now+10∧r7.f.L.length≤p.f.L.length+440) (fun hi11=> ?_) (fun _=>rfl)
 exact dF hK ⟨r7.f⟩ (by dsimp only[cU]<;>(first|(exfalso;omega)|exact hi11|(obtain⟨z1,z2,z3,z4⟩:=jZ hi11;exact⟨kr hinv hi11,by omega,by omega,by omega,by omega,by omega,by omega⟩)|(obtain⟨z0,z1,z2,z3,z4,z5⟩:=hi11;exact⟨z0,by omega,by omega,by omega,by omega,by omega,by omega⟩)))
 refine aj (fun r6=> ?_)
 refine iI (p:=ef r6.f∧r6.f.s0.l.length≤r6.f.cnt∧p.f.cnt≤r6.f.cnt∧r6.f.cnt≤p.f.cnt+1∧p.f.now≤r6.f.now∧r6.f.now≤p.f.now+10∧r6.f.L.length≤p.f.L.length+440) (fun hi12=> ?_) (fun _=>rfl)
 exact dF hK ⟨r6.f⟩ (by dsimp only[cU]<;>(first|(exfalso;omega)|exact hi12|(obtain⟨z1,z2,z3,z4⟩:=jZ hi12;exact⟨kr hinv hi12,by omega,by omega,by omega,by omega,by omega,by omega⟩)|(obtain⟨z0,z1,z2,z3,z4,z5⟩:=hi12;exact⟨z0,by omega,by omega,by omega,by omega,by omega,by omega⟩)))
 refine iI (fun hc13=> ?_) (fun hc13=> ?_)
 refine aP (⟨p.f,p.s,((p.f.L.length - p.f.a:Nat):Int)⟩:eB) rfl (by(try dsimp only[ep]);exact⟨by assumption,by omega,by omega,by omega,by omega,by omega,by omega,by omega,by omega,by omega⟩) ?_
 refine aG ?_ ?_
 refine aj (fun r9=> ?_)
 refine iI (p:=ef r9.f∧r9.f.s0.l.length≤r9.f.cnt∧p.f.cnt≤r9.f.cnt∧r9.f.cnt≤p.f.cnt+1∧p.f.now≤r9.f.now∧r9.f.now≤p.f.now+10∧r9.f.L.length≤p.f.L.length+440) (fun hi14=> ?_) (fun _=>rfl)
 exact dF hK ⟨r9.f⟩ (by dsimp only[cU]<;>(first|(exfalso;omega)|exact hi14|(obtain⟨z1,z2,z3,z4⟩:=jZ hi14;exact⟨kr hinv hi14,by omega,by omega,by omega,by omega,by omega,by omega⟩)|(obtain⟨z0,z1,z2,z3,z4,z5⟩:=hi14;exact⟨z0,by omega,by omega,by omega,by omega,by omega,by omega⟩)))
 refine aj (fun r8=> ?_)
 refine iI (p:=ef r8.f∧r8.f.s0.l.length≤r8.f.cnt∧p.f.cnt≤r8.f.cnt∧r8.f.cnt≤p.f.cnt+1∧p.f.now≤r8.f.now∧r8.f.now≤p.f.now+10∧r8.f.L.length≤p.f.L.length+440) (fun hi15=> ?_) (fun _=>rfl)
 exact dF hK ⟨r8.f⟩ (by dsimp only[cU]<;>(first|(exfalso;omega)|exact hi15|(obtain⟨z1,z2,z3,z4⟩:=jZ hi15;exact⟨kr hinv hi15,by omega,by omega,by omega,by omega,by omega,by omega⟩)|(obtain⟨z0,z1,z2,z3,z4,z5⟩:=hi15;exact⟨z0,by omega,by omega,by omega,by omega,by omega,by omega⟩)))
 refine iI (fun hc16=> ?_) (fun hc16=> ?_)
 refine aP (⟨p.f,p.s,((p.f.L.length - p.f.a:Nat):Int)⟩:eB) rfl (by(try dsimp only[ep]);exact⟨by assumption,by omega,by omega,by omega,by omega,by omega,by omega,by omega,by omega,by omega⟩) ?_
 refine aG ?_ ?_
 refine aj (fun r11=> ?_)
 refine iI (p:=ef r11.f∧r11.f.s0.l.length≤r11.f.cnt∧p.f.cnt≤r11.f.cnt∧r11.f.cnt≤p.f.cnt+1∧p.f.now≤r11.f.now∧r11.f.now≤p.f.now+10∧r11.f.L.length≤p.f.L.length+440) (fun hi17=> ?_) (fun _=>rfl)
 exact dF hK ⟨r11.f⟩ (by dsimp only[cU]<;>(first|(exfalso;omega)|exact hi17|(obtain⟨z1,z2,z3,z4⟩:=jZ hi17;exact⟨kr hinv hi17,by omega,by omega,by omega,by omega,by omega,by omega⟩)|(obtain⟨z0,z1,z2,z3,z4,z5⟩:=hi17;exact⟨z0,by omega,by omega,by omega,by omega,by omega,by omega⟩)))
 refine aj (fun r10=> ?_)
 refine iI (p:=ef r10.f∧r10.f.s0.l.length≤r10.f.cnt∧p.f.cnt≤r10.f.cnt∧r10.f.cnt≤p.f.cnt+1∧p.f.now≤r10.f.now∧r10.f.now≤p.f.now+10∧r10.f.L.length≤p.f.L.length+440) (fun hi18=> ?_) (fun _=>rfl)
 exact dF hK ⟨r10.f⟩ (by dsimp only[cU]<;>(first|(exfalso;omega)|exact hi18|(obtain⟨z1,z2,z3,z4⟩:=jZ hi18;exact⟨kr hinv hi18,by omega,by omega,by omega,by omega,by omega,by omega⟩)|(obtain⟨z0,z1,z2,z3,z4,z5⟩:=hi18;exact⟨z0,by omega,by omega,by omega,by omega,by omega,by omega⟩)))
 refine iI (fun hc19=> ?_) (fun hc19=> ?_)
 refine aP (⟨p.f,p.s,((p.f.L.length - p.f.a:Nat):Int)⟩:eB) rfl (by(try dsimp only[ep]);exact⟨by assumption,by omega,by omega,by omega,by omega,by omega,by omega,by omega,by omega,by omega⟩) ?_
 refine aG ?_ ?_
 refine aj (fun r13=> ?_)
 refine iI (p:=ef r13.f∧r13.f.s0.l.length≤r13.f.cnt∧p.f.cnt≤r13.f.cnt∧r13.f.cnt≤p.f.cnt+1∧p.f.now≤r13.f.now∧r13.f.now≤p.f.now+10∧r13.f.L.length≤p.f.L.length+440) (fun hi20=> ?_) (fun _=>rfl)
 exact dF hK ⟨r13.f⟩ (by dsimp only[cU]<;>(first|(exfalso;omega)|exact hi20|(obtain⟨z1,z2,z3,z4⟩:=jZ hi20;exact⟨kr hinv hi20,by omega,by omega,by omega,by omega,by omega,by omega⟩)|(obtain⟨z0,z1,z2,z3,z4,z5⟩:=hi20;exact⟨z0,by omega,by omega,by omega,by omega,by omega,by omega⟩)))
 refine aj (fun r12=> ?_)
 refine iI (p:=ef r12.f∧r12.f.s0.l.length≤r12.f.cnt∧p.f.cnt≤r12.f.cnt∧r12.f.cnt≤p.f.cnt+1∧p.f.now≤r12.f.now∧r12.f.now≤p.f.now+10∧r12.f.L.length≤p.f.L.length+440) (fun hi21=> ?_) (fun _=>rfl)
 exact dF hK ⟨r12.f⟩ (by dsimp only[cU]<;>(first|(exfalso;omega)|exact hi21|(obtain⟨z1,z2,z3,z4⟩:=jZ hi21;exact⟨kr hinv hi21,by omega,by omega,by omega,by omega,by omega,by omega⟩)|(obtain⟨z0,z1,z2,z3,z4,z5⟩:=hi21;exact⟨z0,by omega,by omega,by omega,by omega,by omega,by omega⟩)))
 refine iI (fun hc22=> ?_) (fun hc22=> ?_)
 refine iI (fun hc23=> ?_) (fun hc23=> ?_)
 refine aQ (mI (by decide) (aQ (mI (by decide) (aQ (aQ (aQ ?_))))))
 refine aB (⟨p.f.s0.l,p.f.s0.com,p.f.c0,⟨Int.tmod (p.f.cnt+(1:Int)) (16:Int),(1:Int)+(Int.tdiv (p.f.cnt+(1:Int)) (16:Int))⟩⟩:ra) rfl (by(try dsimp only[rM]);omega) fun r14 hi24=> ?_
 dsimp only[uE]at hi24
 exact dF hK ⟨({p.f with s0:=⟨r14.l,r14.com⟩,c0:=r14.c0,cnt:=p.f.cnt+(1:Int)}:G1)⟩ (by dsimp only[cU]<;>(first|(exfalso;omega)|(have zl:=congrArg List.length hi24.1;rw[akk]at zl;simp only[List.length_singleton]at zl;exact⟨⟨hI.add_ (by unfold EB;dsimp only;omega) (by omega) hi24 (by simp),a0⟩,by omega,by omega,by omega,by omega,by omega,by omega⟩)))
 refine cZ ?_
 rfl
 refine iI (fun hc25=> ?_) (fun hc25=> ?_)
 exfalso;omega
 refine iI (fun hc26=> ?_) (fun hc26=> ?_)
 exfalso;omega
 refine iI (fun hc27=> ?_) (fun hc27=> ?_)
 exfalso;omega
 refine iI (fun hc28=> ?_) (fun hc28=> ?_)
 exfalso;omega
 refine iI (fun hc29=> ?_) (fun hc29=> ?_)
 refine aB (⟨p.f,Int.tmod ((Int.tmod p.s.x (1:Int))+(1:Int)) (1:Int),(0:Int)⟩:jN) rfl (by(try dsimp only[na]);exact⟨hinv,by omega,by omega,by omega,by omega,by omega,by omega,by omega,by omega,by omega,by omega⟩) fun r15 hi30=> ?_
 dsimp only[qf]at hi30
 exact dF hK ⟨r15.f⟩ (by dsimp only[cU]<;>(first|(exfalso;omega)|exact hi30|(obtain⟨z1,z2,z3,z4⟩:=jZ hi30;exact⟨kr hinv hi30,by omega,by omega,by omega,by omega,by omega,by omega⟩)|(obtain⟨z0,z1,z2,z3,z4,z5⟩:=hi30;exact⟨z0,by omega,by omega,by omega,by omega,by omega,by omega⟩)))
 exact dF hK ⟨p.f⟩ (by dsimp only[cU]<;>(first|(exfalso;omega)|exact⟨hinv,by omega,by omega,by omega,by omega,by omega,by omega⟩))
noncomputable def Im:aM:=bn (mF 1 1) (be tU (cm kB Ce)) (fun _ _ _ _=>false)
theorem QD:aX Tryz.prog 10 1 Im:=aD (cS (f:=10) (k:=1) (lp:=kY) (lf:=600) bD (ay kO) UR (by rfl) (fun b j x h=>(bZ afa (fun h=>(bZ ae2 (fun h=>(by cases h)) h)) h)) fun p K h=>aaM p K (ae h).1 (ae h).2) dT
noncomputable def oq:=aZ oh 1 Im 10 [(0,4),(1,15)]
theorem kR:aE Tryz.prog oq:=az QD kO
def MD:XC:=tI
def MG:XC:=(.aft (.seq (.seq (g_ 2 [p_ 0 51 (m_ 7),p_ 1 52 (.bin 3 4 (.t 51) (i_ 0))]) (.cond (.t 52) .ret .skip)) (.seq (g_ 9 [p_ 0 53 (f_ 3 3),r_ 1 54 (l_ 53),p_ 2 55 (m_ 7),p_ 3 56 (.bin 0 4 (.t 54) (.t 55)),p_ 4 57 (m_ 7),p_ 5 58 (.bin 0 0 (.t 56) (.t 57)),p_ 6 59 (m_ 7),p_ 7 60 (.bin 0 4 (.t 58) (.t 59)),p_ 8 8 (m_ 60)]) (.seq (g_ 9 [p_ 0 61 (m_ 0),p_ 1 62 (n_ 61),p_ 2 63 (f_ 2 62),r_ 3 64 (l_ 63),p_ 4 65 (m_ 8),p_ 5 66 (.ixs 33 (.t 64) (.t 65)),r_ 6 67 (.ld true 33 (.t 66)),e_ 7 9 (.al 76 [.int 0 (.ofNat 0),.int 0 (.ofNat 0),.int 1 (.ofNat 0),.int 1 (.ofNat 0),.int 1 (.ofNat 0),.int 3 (.ofNat 0),.int 3 (.ofNat 0),.int 3 (.ofNat 0),.int 3 (.ofNat 0),.int 4 (.ofNat 0),.int 4 (.ofNat 0),.int 1 (.ofNat 0),.int 2 (.ofNat 0),.int 3 (.ofNat 0),.int 1 (.ofNat 0),.int 1 (.ofNat 0),.int 1 (.ofNat 0),.int 1 (.ofNat 0),.int 1 (.ofNat 0),.int 1 (.ofNat 0),.int 1 (.ofNat 0),.nilS,.int 1 (.ofNat 0),.str [],.int 1 (.ofNat 0),.int 3 (.ofNat 0),.nilS,.int 1 (.ofNat 0),.int 2 (.ofNat 0),.bool false,.nilS,.nilS,.nilS]),bm 8 (.st 33 (.t 9) (.t 67))]) (.seq (.pre [.can 1 [0,3,8,9]] (.spc 0 MD)) (.seq (g_ 3 [p_ 0 90 (f_ 0 3),r_ 1 91 (l_ 90),p_ 2 92 (.bin 3 5 (.t 91) (i_ 6))]) (.cond (.t 92) (g_ 3 [p_ 0 93 (m_ 0),r_ 1 94 (.ld true 33 (.t 9)),c_ 2 95 29 [.t 93,.t 94]]) .skip)))))) [(0,[.can 1 []]),(1,[.can 1 []])])
def Mz:XC:=(.aft (.seq (.seq (g_ 2 [p_ 0 168 (m_ 10),p_ 1 169 (.bin 3 0 (.t 168) (i_ 10))]) (.cond (.t 169) .skip (.exit 3))) (.seq (.block 4 (.pre [.fix 5 2] (g_ 3 [p_ 0 172 (m_ 0),p_ 1 173 (m_ 5),c_ 2 174 28 [.t 172,.t 173]]))) (g_ 3 [p_ 0 170 (m_ 10),p_ 1 171 (.bin 0 0 (.t 170) (i_ 1)),p_ 2 10 (m_ 171)]))) [(0,[.up 5,.can 1 [0,5,10]]),(3,[.can 1 []])])
def RQ:XF:=.mk 175 .none (.seq (g_ 1 [e_ 0 3 (.box 28 (.t 1))]) (.seq (g_ 6 [p_ 0 11 (m_ 0),p_ 1 12 (n_ 11),p_ 2 13 (f_ 0 12),r_ 3 14 (l_ 13),p_ 4 15 (k_ 14),p_ 5 4 (m_ 15)]) (.seq (g_ 9 [p_ 0 16 (f_ 1 3),r_ 1 17 (l_ 16),p_ 2 18 (m_ 4),p_ 3 19 (.bin 0 4 (.t 17) (.t 18)),p_ 4 20 (m_ 4),p_ 5 21 (.bin 0 0 (.t 19) (.t 20)),p_ 6 22 (m_ 4),p_ 7 23 (.bin 0 4 (.t 21) (.t 22)),p_ 8 5 (m_ 23)]) (.seq (g_ 9 [p_ 0 24 (f_ 2 3),r_ 1 25 (l_ 24),p_ 2 26 (m_ 4),p_ 3 27 (.bin 0 4 (.t 25) (.t 26)),p_ 4 28 (m_ 4),p_ 5 29 (.bin 0 0 (.t 27) (.t 28)),p_ 6 30 (m_ 4),p_ 7 31 (.bin 0 4 (.t 29) (.t 30)),p_ 8 6 (m_ 31)]) (.seq (g_ 6 [p_ 0 32 (m_ 0),p_ 1 33 (n_ 32),p_ 2 34 (f_ 2 33),r_ 3 35 (l_ 34),p_ 4 36 (k_ 35),p_ 5 7 (m_ 36)]) (.seq (g_ 2 [p_ 0 37 (f_ 0 3),r_ 1 38 (l_ 37)]) (.block 2 (.seq (g_ 2 [p_ 0 40 (.bin 3 4 (.t 38) (i_ 0)),p_ 1 39 (m_ 40)]) (.cond (.t 39) (.pre [.fix 5 2] (g_ 3 [p_ 0 41 (m_ 0),p_ 1 42 (m_ 5),c_ 2 43 28 [.t 41,.t 42]])) (.seq (.seq (g_ 2 [p_ 0 45 (.bin 3 4 (.t 38) (i_ 1)),p_ 1 44 (m_ 45)]) (.cond (.t 44) .skip (.seq (g_ 2 [p_ 0 46 (.bin 3 4 (.t 38) (i_ 2)),p_ 1 44 (m_ 46)]) (.cond (.t 44) .skip (.seq (g_ 2 [p_ 0 47 (.bin 3 4 (.t 38) (i_ 3)),p_ 1 44 (m_ 47)]) (.cond (.t 44) .skip (.seq (g_ 2 [p_ 0 48 (.bin 3 4 (.t 38) (i_ 4)),p_ 1 44 (m_ 48)]) (.cond (.t 44) .skip (.seq (g_ 2 [p_ 0 49 (.bin 3 4 (.t 38) (i_ 5)),p_ 1 44 (m_ 49)]) (.cond (.t 44) .skip (g_ 2 [p_ 0 50 (.bin 3 4 (.t 38) (i_ 6)),p_ 1 44 (m_ 50)]))))))))))) (.cond (.t 44) (.pre [.can 1 [0,3,7]] (.spc 1 MG)) (.seq (g_ 2 [p_ 0 97 (.bin 3 4 (.t 38) (i_ 7)),p_ 1 96 (m_ 97)]) (.cond (.t 96) (.pre [.fix 5 2] (.seq (g_ 8 [p_ 0 98 (m_ 0),p_ 1 99 (n_ 98),p_ 2 100 (f_ 1 99),r_ 3 101 (l_ 100),p_ 4 102 (m_ 5),p_ 5 103 (.ixs 1 (.t 101) (.t 102)),r_ 6 104 (l_ 103),p_ 7 105 (.un 0 (.t 104))]) (.cond (.t 105) (.seq (g_ 8 [p_ 0 106 (m_ 0),p_ 1 107 (n_ 106),p_ 2 108 (f_ 4 107),r_ 3 109 (l_ 108),p_ 4 110 (.bin 0 0 (.t 109) (i_ 1)),p_ 5 111 (n_ 106),p_ 6 112 (f_ 4 111),bm 7 (.st 1 (.t 112) (.t 110))]) (h_ 13 [p_ 0 113 (m_ 0),p_ 1 114 (n_ 113),p_ 2 115 (f_ 0 114),r_ 3 116 (l_ 115),p_ 4 117 (m_ 5),p_ 5 118 (.ixs 1 (.t 116) (.t 117)),r_ 6 119 (l_ 118),p_ 7 120 (m_ 0),p_ 8 121 (n_ 120),p_ 9 122 (f_ 4 121),r_ 10 123 (l_ 122),c_ 11 124 25 [.t 123],a_ 3 116 (l_ 115),a_ 6 119 (l_ 118),c_ 12 125 24 [.t 119,.t 124]])) .skip))) (.seq (g_ 2 [p_ 0 127 (.bin 3 4 (.t 38) (i_ 8)),p_ 1 126 (m_ 127)]) (.cond (.t 126) (.pre [.die] (h_ 10 [p_ 0 128 (m_ 0),p_ 1 129 (n_ 128),p_ 2 130 (f_ 0 129),r_ 3 131 (l_ 130),p_ 4 132 (m_ 5),p_ 5 133 (.ixs 1 (.t 131) (.t 132)),r_ 6 134 (l_ 133),p_ 7 135 (m_ 6),c_ 8 136 21 [.t 135],a_ 3 131 (l_ 130),a_ 6 134 (l_ 133),c_ 9 137 20 [.t 134,.t 136]])) (.seq (g_ 2 [p_ 0 139 (.bin 3 4 (.t 38) (i_ 9)),p_ 1 138 (m_ 139)]) (.cond (.t 138) (.pre [.die] (g_ 8 [p_ 0 140 (m_ 0),p_ 1 141 (n_ 140),p_ 2 142 (f_ 0 141),r_ 3 143 (l_ 142),p_ 4 144 (m_ 5),p_ 5 145 (.ixs 1 (.t 143) (.t 144)),r_ 6 146 (l_ 145),c_ 7 147 17 [.t 146]])) (.seq (g_ 2 [p_ 0 149 (.bin 3 4 (.t 38) (i_ 10)),p_ 1 148 (m_ 149)]) (.cond (.t 148) (.pre [.die] (g_ 8 [p_ 0 150 (m_ 0),p_ 1 151 (n_ 150),p_ 2 152 (f_ 0 151),r_ 3 153 (l_ 152),p_ 4 154 (m_ 5),p_ 5 155 (.ixs 1 (.t 153) (.t 154)),r_ 6 156 (l_ 155),c_ 7 157 18 [.t 156]])) (.seq (g_ 2 [p_ 0 159 (.bin 3 4 (.t 38) (i_ 11)),p_ 1 158 (m_ 159)]) (.cond (.t 158) (.pre [.die] (g_ 7 [p_ 0 160 (m_ 0),p_ 1 161 (n_ 160),p_ 2 162 (f_ 1 161),r_ 3 163 (l_ 162),p_ 4 164 (m_ 5),p_ 5 165 (.ixs 1 (.t 163) (.t 164)),bm 6 (.st 1 (.t 165) (.c (.bool true)))])) (.seq (g_ 2 [p_ 0 167 (.bin 3 4 (.t 38) (i_ 12)),p_ 1 166 (m_ 167)]) (.cond (.t 166) (.seq (g_ 1 [p_ 0 10 (.mv (i_ 0))]) (.block 3 (.pre [.can 1 [0,5,10],.up 10,.can 1 [0,5,10]] (.inv 2 Mz)))) .skip)))))))))))))))))))))))
theorem UQ:aW Tryz.prog 10 RQ=true:=by kernel_rfl
structure jM where
 f:G2
 x:Int
 i:Int
structure TX where
 f:G2
def lO (p:jM) (r:TX):Prop:=dH r.f∧r.f.s0.l.length≤r.f.cnt∧r.f.cnt=p.f.cnt∧p.f.now≤r.f.now∧r.f.now≤p.f.now+(10 - p.i)∧(r.f.L.length:Int)≤(p.f.L.length:Int)+3*(10 - p.i)
noncomputable def pK (p:jM):IL:=((.cons 10 (.sy (.int 0 p.i)) (.cons 5 (.sy (.int 0 p.x)) (.cons 0 (.ptr 0 0) .nil))),(cd p.f (p.f.L.length - p.f.a) p.f.s0.l.length p.f.s1.l.length),24)
noncomputable def zX (p:jM) (K:KC):Bool:=ah fun r:TX=>iP (lO p r) (K 3 .nil (cd r.f (r.f.L.length - r.f.a) r.f.s0.l.length r.f.s1.l.length) 24) true
def kw (p:jM):Prop:=dH p.f∧p.f.s0.l.length≤p.f.cnt∧0≤p.f.cnt∧p.f.cnt≤300∧0≤p.f.now∧p.f.now≤100000+p.i∧(p.f.L.length:Int)≤100000+3*p.i∧0≤p.x∧p.x<2∧0≤p.i∧p.i≤10
theorem ach {p:jM} {K:KC} (hK:zX p K=true) (r:TX) (h:lO p r):K 3 .nil (cd r.f (r.f.L.length - r.f.a) r.f.s0.l.length r.f.s1.l.length) 24=true:=aA h (au hK r)
noncomputable def Fa (p:jM) (K:KC):Bool:=ac (aF (kw p)) (zX p K)
structure pZ where
 f:G2
 s:Sg
 t:Fl
 j:Int
structure Ub where
 L:List Fl
 a:Nat
 o:Nat
 cp:Nat
def lR (p:pZ) (r:Ub):Prop:=r.a≤r.L.length∧r.L.length≤p.f.L.length+400∧(r.L.drop r.a).length≤400∧∀x,x∈r.L.drop r.a→x∈p.f.L.drop p.f.a
noncomputable def sN (p:pZ):IL:=((.cons 9 (.ptr 2 0) (.cons 8 (.sy (.int 0 p.j)) (.cons 3 (.ptr 1 0) (.cons 0 (.ptr 0 0) .nil)))),(Ll p.f p.s p.t (p.f.L.length - p.f.a) p.f.s0.l.length p.f.s1.l.length),26)
noncomputable def Hr (p:pZ) (K:KC):Bool:=ah fun r:Ub=>iP (lR p r) (K 0 (.cons 9 (.ptr 2 0) (.cons 3 (.ptr 1 0) (.cons 0 (.ptr 0 0) .nil))) (Ll ({p.f with L:=r.L,a:=r.a,o:=r.o,cp:=r.cp}:G2) p.s p.t (r.L.length - r.a) p.f.s0.l.length p.f.s1.l.length) 26) true
def uo (p:pZ):Prop:=dH p.f∧0≤p.j∧p.j<((p.f.L.length - p.f.a:Nat):Int)
theorem vr {p:pZ} {K:KC} (hK:Hr p K=true) (r:Ub) (h:lR p r):K 0 (.cons 9 (.ptr 2 0) (.cons 3 (.ptr 1 0) (.cons 0 (.ptr 0 0) .nil))) (Ll ({p.f with L:=r.L,a:=r.a,o:=r.o,cp:=r.cp}:G2) p.s p.t (r.L.length - r.a) p.f.s0.l.length p.f.s1.l.length) 26=true:=aA h (au hK r)
noncomputable def aep (p:pZ) (K:KC):Bool:=ac (aF (uo p)) (Hr p K)
structure eA where
 f:G2
 s:Sg
 kk:Int
structure mM where
 f:G2
structure mr where
 f:G2
def qj (p:eA) (r:mM):Prop:=dH r.f∧r.f.s0.l.length≤r.f.cnt∧p.f.cnt≤r.f.cnt∧r.f.cnt≤p.f.cnt+1∧p.f.now≤r.f.now∧r.f.now≤p.f.now+10∧r.f.L.length≤p.f.L.length+440
def nl (p:eA) (r:mr):Prop:=dH r.f∧r.f.s0.l.length≤r.f.cnt∧p.f.cnt≤r.f.cnt∧r.f.cnt≤p.f.cnt+1∧p.f.now≤r.f.now∧r.f.now≤p.f.now+10∧r.f.L.length≤p.f.L.length+440
noncomputable def iV (p:eA):IL:=((.cons 7 (.sy (.int 0 p.kk)) (.cons 3 (.ptr 1 0) (.cons 0 (.ptr 0 0) .nil))),(Us p.f p.s (p.f.L.length - p.f.a) p.f.s0.l.length p.f.s1.l.length),25)
noncomputable def Qk (p:eA) (K:KC):Bool:=ac (ah fun r:mM=>iP (qj p r) (K 0 .nil (cd r.f (r.f.L.length - r.f.a) r.f.s0.l.length r.f.s1.l.length) 24) true) (ah fun r:mr=>iP (nl p r) (K 1 .nil (cd r.f (r.f.L.length - r.f.a) r.f.s0.l.length r.f.s1.l.length) 24) true)
def em (p:eA):Prop:=dH p.f∧p.f.s0.l.length≤p.f.cnt∧0≤p.f.cnt∧p.f.cnt≤300∧0≤p.f.now∧p.f.now≤100000∧p.f.L.length≤100000∧1≤p.s.k∧p.s.k≤6∧p.kk=((p.f.L.length - p.f.a:Nat):Int)
noncomputable def aet (p:eA) (K:KC):Bool:=ac (aF (em p)) (Qk p K)
noncomputable def kX:gB:=fun j S M nx K=>(Bool.rec ((Bool.rec ((Bool.rec (false) (ax fun p:eA=>ac (aF ((S,M,nx)=iV p)) (aet p K)) (Nat.beq j 1))) (ax fun p:pZ=>ac (aF ((S,M,nx)=sN p)) (aep p K)) (Nat.beq j 0))) (ax fun p:jM=>ac (aF ((S,M,nx)=pK p)) (Fa p K)) (Nat.beq j 2))
theorem adK (p:pZ) (K:KC) (hpre:uo p) (hK:Hr p K=true):(cC (bg oq) kX 600 MD (sN p).1 (sN p).2.1 (sN p).2.2 K)=true:=by
 refine Eq.trans (b:=(iP (¬p.s.k=(5:Int)) (mP (0≤(0:Int)∧(0:Int)≤p.j∧p.j≤((p.f.L.length - p.f.a:Nat):Int)) (mP (aL 0 (p.j+(1:Int))) (mP (0≤(p.j+(1:Int))∧(p.j+(1:Int))≤((p.f.L.length - p.f.a:Nat):Int)∧((p.f.L.length - p.f.a:Nat):Int)≤((p.f.L.length - p.f.a:Nat):Int)) (mP (((.psub 5 33 p.f.a (p.f.L.length - p.f.a) p.f.o (some p.f.cp)):SY)=(.psub 5 33 p.f.a (p.f.L.length - p.f.a) p.f.o (some p.f.cp))) (mP (0≤(0:Int)∧(0:Int)≤p.j∧p.j≤((p.f.L.length - p.f.a:Nat):Int)) (mP (((.psub 5 33 p.f.a p.j.toNat (if p.f.cp=p.f.a then p.f.o else p.f.a*33) (some p.f.cp)):SY)=(.psub 5 33 p.f.a p.j.toNat (if p.f.cp=p.f.a then p.f.o else p.f.a*33) (some p.f.cp))) (mP (((.psub 5 33 p.f.a (p.f.L.length - p.f.a) p.f.o (some p.f.cp)):SY)=(.psub 5 33 p.f.a (p.f.L.length - p.f.a) p.f.o (some p.f.cp))) (mP (0≤(p.j+(1:Int))∧(p.j+(1:Int))≤((p.f.L.length - p.f.a:Nat):Int)∧((p.f.L.length - p.f.a:Nat):Int)≤((p.f.L.length - p.f.a:Nat):Int)) (mP (((.psub 5 33 (p.f.a+((p.j+(1:Int)).toNat)) ((p.f.L.length - p.f.a) - ((p.j+(1:Int)).toNat)) (if p.f.cp=p.f.a then p.f.o else p.f.a*33) (some p.f.cp)):SY)=(.psub 5 33 (p.f.a+((p.j+(1:Int)).toNat)) ((p.f.L.length - p.f.a) - ((p.j+(1:Int)).toNat)) (if p.f.cp=p.f.a then p.f.o else p.f.a*33) (some p.f.cp))) (mP (p.f.a+p.j.toNat≤p.f.L.length) (iP (((p.f.L.drop p.f.a).take p.j.toNat)=[]) (mP (((.psub 5 33 p.f.a (p.f.L.length - p.f.a) p.f.o (some p.f.cp)):SY)=(.psub 5 33 p.f.a (p.f.L.length - p.f.a) p.f.o (some p.f.cp))) (mP (0≤(p.j+(1:Int))∧(p.j+(1:Int))≤((p.f.L.length - p.f.a:Nat):Int)∧((p.f.L.length - p.f.a:Nat):Int)≤((p.f.L.length - p.f.a:Nat):Int)) (mP (((.psub 5 33 (p.f.a+((p.j+(1:Int)).toNat)) ((p.f.L.length - p.f.a) - ((p.j+(1:Int)).toNat)) (if p.f.cp=p.f.a then p.f.o else p.f.a*33) (some p.f.cp)):SY)=(.psub 5 33 (p.f.a+((p.j+(1:Int)).toNat)) ((p.f.L.length - p.f.a) - ((p.j+(1:Int)).toNat)) (if p.f.cp=p.f.a then p.f.o else p.f.a*33) (some p.f.cp))) (mP ((p.f.a+((p.j+(1:Int)).toNat))+((p.f.L.length - p.f.a) - ((p.j+(1:Int)).toNat))≤p.f.L.length) (iP (((p.f.L.drop (p.f.a+((p.j+(1:Int)).toNat))).take ((p.f.L.length - p.f.a) - ((p.j+(1:Int)).toNat)))=[]) (mP ((.sl 26 0 0 (.ex 0):AV)=(.sl 26 0 0 (.ex 0):AV)) (mP (0=([]:List Fl).length) (ah fun u1:Nat=>K 0 (.cons 9 (.ptr 2 0) (.cons 3 (.ptr 1 0) (.cons 0 (.ptr 0 0) .nil))) (Ll ({p.f with L:=([]:List Fl),a:=(0:Nat),o:=(0:Nat),cp:=u1}:G2) p.s p.t 0 p.f.s0.l.length p.f.s1.l.length) 26))) (mP (aC 232 ((p.f.L.drop (p.f.a+((p.j+(1:Int)).toNat))).take ((p.f.L.length - p.f.a) - ((p.j+(1:Int)).toNat))).length) (mP ((((p.f.L.drop (p.f.a+((p.j+(1:Int)).toNat))).take ((p.f.L.length - p.f.a) - ((p.j+(1:Int)).toNat))).length)=((p.f.L.drop (p.f.a+((p.j+(1:Int)).toNat))).take ((p.f.L.length - p.f.a) - ((p.j+(1:Int)).toNat))).length) (ah fun u2:Nat=>K 0 (.cons 9 (.ptr 2 0) (.cons 3 (.ptr 1 0) (.cons 0 (.ptr 0 0) .nil))) (Ll ({p.f with L:=(p.f.L.drop (p.f.a+((p.j+(1:Int)).toNat))).take ((p.f.L.length - p.f.a) - ((p.j+(1:Int)).toNat)),a:=(0:Nat),o:=(0:Nat),cp:=u2}:G2) p.s p.t (((p.f.L.drop (p.f.a+((p.j+(1:Int)).toNat))).take ((p.f.L.length - p.f.a) - ((p.j+(1:Int)).toNat))).length) p.f.s0.l.length p.f.s1.l.length) 26)))))))) (mP (aC 232 ((p.f.L.drop p.f.a).take p.j.toNat).length) (mP (((.psub 5 33 p.f.a (p.f.L.length - p.f.a) p.f.o (some p.f.cp)):SY)=(.psub 5 33 p.f.a (p.f.L.length - p.f.a) p.f.o (some p.f.cp))) (mP (0≤(p.j+(1:Int))∧(p.j+(1:Int))≤((p.f.L.length - p.f.a:Nat):Int)∧((p.f.L.length - p.f.a:Nat):Int)≤((p.f.L.length - p.f.a:Nat):Int)) (mP (((.psub 5 33 (p.f.a+((p.j+(1:Int)).toNat)) ((p.f.L.length - p.f.a) - ((p.j+(1:Int)).toNat)) (if p.f.cp=p.f.a then p.f.o else p.f.a*33) (some p.f.cp)):SY)=(.psub 5 33 (p.f.a+((p.j+(1:Int)).toNat)) ((p.f.L.length - p.f.a) - ((p.j+(1:Int)).toNat)) (if p.f.cp=p.f.a then p.f.o else p.f.a*33) (some p.f.cp))) (mP ((p.f.a+((p.j+(1:Int)).toNat))+((p.f.L.length - p.f.a) - ((p.j+(1:Int)).toNat))≤p.f.L.length) (mP ((((p.f.L.drop p.f.a).take p.j.toNat).length)=((p.f.L.drop p.f.a).take p.j.toNat).length) (iP (((p.f.L.drop (p.f.a+((p.j+(1:Int)).toNat))).take ((p.f.L.length - p.f.a) - ((p.j+(1:Int)).toNat)))=[]) (mP ((((p.f.L.drop p.f.a).take p.j.toNat).length)=((p.f.L.drop p.f.a).take p.j.toNat).length) (ah fun u4:Nat=>K 0 (.cons 9 (.ptr 2 0) (.cons 3 (.ptr 1 0) (.cons 0 (.ptr 0 0) .nil))) (Ll ({p.f with L:=(p.f.L.drop p.f.a).take p.j.toNat,a:=(0:Nat),o:=(0:Nat),cp:=u4}:G2) p.s p.t (((p.f.L.drop p.f.a).take p.j.toNat).length) p.f.s0.l.length p.f.s1.l.length) 26)) (ax fun m1:List Fl=>mP (bz (m1.map cw) (((p.f.L.drop (p.f.a+((p.j+(1:Int)).toNat))).take ((p.f.L.length - p.f.a) - ((p.j+(1:Int)).toNat))).map cw)) (mP (aC 232 (((p.f.L.drop p.f.a).take p.j.toNat).length+m1.length)) (mP (((((p.f.L.drop p.f.a).take p.j.toNat)++m1).length)=(((p.f.L.drop p.f.a).take p.j.toNat)++m1).length) (ah fun u3:Nat=>K 0 (.cons 9 (.ptr 2 0) (.cons 3 (.ptr 1 0) (.cons 0 (.ptr 0 0) .nil))) (Ll ({p.f with L:=((p.f.L.drop p.f.a).take p.j.toNat)++m1,a:=(0:Nat),o:=(0:Nat),cp:=u3}:G2) p.s p.t ((((p.f.L.drop p.f.a).take p.j.toNat)++m1).length) p.f.s0.l.length p.f.s1.l.length) 26)))))))))))))))))))))) (K 0 (.cons 9 (.ptr 2 0) (.cons 3 (.ptr 1 0) (.cons 0 (.ptr 0 0) .nil))) (Ll p.f p.s p.t (p.f.L.length - p.f.a) p.f.s0.l.length p.f.s1.l.length) 26))) (by kernel_rfl) ?_
 dsimp only[uo]at hpre
 obtain⟨hinv,k1,k2⟩:=hpre
 have hI:FInv p.f.s0 _ _ (p.f.L.drop p.f.a):=hinv.1
 obtain⟨a0,a1,a2,a3,⟨b1,c1,d1,e1,f1⟩⟩:=rC hinv
 have few:=hI.few
 have few2:=few
 rw[akG]at few2
 refine iI (fun hc1=> ?_) (fun hc1=> ?_)
 refine mI (by(first|omega|(simp[aC]<;>omega))) (aQ (mI (by(first|omega|(simp[aC]<;>omega))) (aK (mI (by(first|omega|(simp[aC]<;>omega))) (aK (aK (mI (by(first|omega|(simp[aC]<;>omega))) (aK (mI (by(first|omega|(simp[aC]<;>omega))) ?_)))))))))
 refine iI (fun hc2=> ?_) (fun hc2=> ?_)
 have hc2l:(((p.f.L.drop p.f.a).take p.j.toNat)).length=0:=(by rw[hc2];rfl)
 refine aK (mI (by(first|omega|(simp[aC]<;>omega))) (aK (mI (by(first|omega|(simp[aC]<;>omega))) ?_)))
 refine iI (fun hc3=> ?_) (fun hc3=> ?_)
 have hc3l:(((p.f.L.drop (p.f.a+((p.j+(1:Int)).toNat))).take ((p.f.L.length - p.f.a) - ((p.j+(1:Int)).toNat)))).length=0:=(by rw[hc3];rfl)
 refine aK (aK ?_)
 refine aj (fun u1=> ?_)
 exact vr hK ⟨([]:List Fl),(0:Nat),(0:Nat),u1⟩ (by dsimp only[lR]<;>(refine⟨Nat.zero_le _,?_,?_,fun x hx=> ?_⟩<;>first|(simp only[akk,aky,akG,akn];omega)|exact cj x hx (by omega)|exact List.mem_of_mem_take hx|(exact cj (i:=0) (n:=_) x (by simpa using hx) (by omega))|(simp at hx;done)))
 have hc3l:0<(((p.f.L.drop (p.f.a+((p.j+(1:Int)).toNat))).take ((p.f.L.length - p.f.a) - ((p.j+(1:Int)).toNat)))).length:=List.length_pos_iff.2 hc3
 refine mI (by first|(simp only[aC,akk,aky,akG];omega)|(simp only[aC,akl,akn];omega)|(simp only[akl,akn]at*;unfold aC;omega)) (aK ?_)
 refine aj (fun u2=> ?_)
 exact vr hK ⟨(p.f.L.drop (p.f.a+((p.j+(1:Int)).toNat))).take ((p.f.L.length - p.f.a) - ((p.j+(1:Int)).toNat)),(0:Nat),(0:Nat),u2⟩ (by dsimp only[lR]<;>(refine⟨Nat.zero_le _,?_,?_,fun x hx=> ?_⟩<;>first|(simp only[akk,aky,akG,akn];omega)|exact cj x hx (by omega)|exact List.mem_of_mem_take hx|(exact cj (i:=0) (n:=_) x (by simpa using hx) (by omega))|(simp at hx;done)))
 have hc2l:0<(((p.f.L.drop p.f.a).take p.j.toNat)).length:=List.length_pos_iff.2 hc2
 refine mI (by first|(simp only[aC,akk,aky,akG];omega)|(simp only[aC,akl,akn];omega)|(simp only[akl,akn]at*;unfold aC;omega)) (aK (mI (by(first|omega|(simp[aC]<;>omega))) (aK (mI (by(first|omega|(simp[aC]<;>omega))) (aK ?_)))))
 refine iI (fun hc4=> ?_) (fun hc4=> ?_)
 have hc4l:(((p.f.L.drop (p.f.a+((p.j+(1:Int)).toNat))).take ((p.f.L.length - p.f.a) - ((p.j+(1:Int)).toNat)))).length=0:=(by rw[hc4];rfl)
 refine aK ?_
 refine aj (fun u4=> ?_)
 exact vr hK ⟨(p.f.L.drop p.f.a).take p.j.toNat,(0:Nat),(0:Nat),u4⟩ (by dsimp only[lR]<;>(refine⟨Nat.zero_le _,?_,?_,fun x hx=> ?_⟩<;>first|(simp only[akk,aky,akG,akn];omega)|exact cj x hx (by omega)|exact List.mem_of_mem_take hx|(exact cj (i:=0) (n:=_) x (by simpa using hx) (by omega))|(simp at hx;done)))
 have hc4l:0<(((p.f.L.drop (p.f.a+((p.j+(1:Int)).toNat))).take ((p.f.L.length - p.f.a) - ((p.j+(1:Int)).toNat)))).length:=List.length_pos_iff.2 hc4
 refine aH ((p.f.L.drop (p.f.a+((p.j+(1:Int)).toNat))).take ((p.f.L.length - p.f.a) - ((p.j+(1:Int)).toNat))) ?_
 refine mI (show bz (((p.f.L.drop (p.f.a+((p.j+(1:Int)).toNat))).take ((p.f.L.length - p.f.a) - ((p.j+(1:Int)).toNat))).map cw) (((p.f.L.drop (p.f.a+((p.j+(1:Int)).toNat))).take ((p.f.L.length - p.f.a) - ((p.j+(1:Int)).toNat))).map cw) from cR _) (mI (by(try dsimp only);first|(simp only[aC,akk,aky,akG];omega)|(simp only[aC,akl,akn];omega)|(simp only[akl,akn]at*;unfold aC;omega)) ?_)
 refine aK ?_
 refine aj (fun u3=> ?_)
 exact vr hK ⟨((p.f.L.drop p.f.a).take p.j.toNat)++((p.f.L.drop (p.f.a+((p.j+(1:Int)).toNat))).take ((p.f.L.length - p.f.a) - ((p.j+(1:Int)).toNat))),(0:Nat),(0:Nat),u3⟩ (by dsimp only[lR]<;>(refine⟨Nat.zero_le _,?_,?_,fun x hx=> ?_⟩<;>first|(simp only[akk,aky,akG,akn];omega)|exact cj x hx (by omega)|exact List.mem_of_mem_take hx|(exact cj (i:=0) (n:=_) x (by simpa using hx) (by omega))|(simp at hx;done)))
 exact vr hK ⟨p.f.L,p.f.a,p.f.o,p.f.cp⟩ (by dsimp only[lR]<;>exact⟨a0,by omega,few,fun _ h=>h⟩)
theorem ae5:dp Tryz.prog 175 1 kX false 0 MD:=by
 refine mO (lf:=600) bD (ay kR) (by rfl) (fun b j x h=>by cases h) (fun S M nx K h=> ?_)
 obtain⟨p,h⟩:=bJ h
 obtain⟨e,h9⟩:=ae h
 clear h
 have e1:S=(sN p).1:=congrArg Prod.fst e
 have e2:M=(sN p).2.1:=congrArg (fun x=>x.2.1) e
 have e3:nx=(sN p).2.2:=congrArg (fun x=>x.2.2) e
 subst e1;subst e2;subst e3
 exact adK p K (ae h9).1 (ae h9).2
theorem adO (p:eA) (K:KC) (hpre:em p) (hK:Qk p K=true):(cC (bg oq) kX 600 MG (iV p).1 (iV p).2.1 (iV p).2.2 K)=true:=by
 refine Eq.trans (b:=(let y0:Int:=(Int.tmod ((Int.tmod p.s.i p.kk)+p.kk) p.kk);iP (p.kk=(0:Int)) (K 1 .nil (cd p.f (p.f.L.length - p.f.a) p.f.s0.l.length p.f.s1.l.length) 24) (mP (p.kk≠0) (mP (aL 0 ((Int.tmod p.s.i p.kk)+p.kk)) (mP (p.kk≠0) (mP (0≤y0∧y0<((p.f.L.length - p.f.a:Nat):Int)) (mP ((p.f.a+(y0.toNat))<p.f.L.length) (ah fun x1:Fl=>iP (p.f.L[p.f.a+(y0.toNat)]?=some x1) (bf (((.cons 9 (.ptr 2 0) (.cons 8 (.sy (.int 0 y0)) (.cons 3 (.ptr 1 0) (.cons 0 (.ptr 0 0) .nil)))),(Ll p.f p.s x1 (p.f.L.length - p.f.a) p.f.s0.l.length p.f.s1.l.length),26)) sN uo lR fun p1 r1=>iP (¬p1.s.k=(6:Int)) (bf (([.ptr 0 0,.agg [.sy (.int 0 p1.t.fr),.sy (.int 0 p1.t.to),.sy (.int 1 p1.t.k),aa,aa,bt,.sy (.int 3 p1.t.n),.sy (.int 3 p1.t.c),aw,aI,aI,aa,aJ,aw,aa,aa,aa,aa,aa,aa,aa,.nilS,aa,.str [],aa,aw,.nilS,aa,aJ,.bool false,.nilS,.sy (.imm p1.t.h 18 Ke p1.t.l ai),.nilS]],(cd ({p1.f with L:=r1.L,a:=r1.a,o:=r1.o,cp:=r1.cp}:G2) (r1.L.length - r1.a) p1.f.s0.l.length p1.f.s1.l.length),24)) ud kL jp fun p2 r2=>K 0 .nil (cd r2.f (r2.f.L.length - r2.f.a) r2.f.s0.l.length r2.f.s1.l.length) 24) (K 0 .nil (cd ({p1.f with L:=r1.L,a:=r1.a,o:=r1.o,cp:=r1.cp}:G2) (r1.L.length - r1.a) p1.f.s0.l.length p1.f.s1.l.length) 24)) true)))))))) (by kernel_rfl) ?_
 obtain⟨hK0,hKr0⟩:=aq hK
 have hK1:=hKr0
 dsimp only[em]at hpre
 obtain⟨hinv,y1,y2,y3,y4,y5,y6,y7,y8,y9⟩:=hpre
 have hI:FInv p.f.s0 _ _ (p.f.L.drop p.f.a):=hinv.1
 obtain⟨a0,a1,a2,a3,⟨b1,c1,d1,e1,f1⟩⟩:=rC hinv
 have t6:=tmk p.kk p.s.i
 have t7:=Xp p.kk p.s.i
 refine iI (fun hc1=> ?_) (fun hc1=> ?_)
 exact aA (show dH p.f∧p.f.s0.l.length≤p.f.cnt∧p.f.cnt≤p.f.cnt∧p.f.cnt≤p.f.cnt+1∧p.f.now≤p.f.now∧p.f.now≤p.f.now+10∧p.f.L.length≤p.f.L.length+440 from(by first|(exfalso;omega)|exact⟨hinv,by omega,by omega,by omega,by omega,by omega,by omega⟩)) (au hK1 (⟨p.f⟩:mr))
 refine cZ (aQ (cZ (gy (cZ ?_))))
 refine aj (fun x1=> ?_)
 refine iI (fun hi2=> ?_) (fun _=>rfl)
 refine aB (⟨p.f,p.s,x1,Int.tmod ((Int.tmod p.s.i p.kk)+p.kk) p.kk⟩:pZ) rfl (by(try dsimp only[uo]);exact⟨hinv,by omega,by omega⟩) fun r1 hi3=> ?_
 dsimp only[lR]at hi3
 refine iI (p:=¬p.s.k=(6:Int)) (fun hc4=> ?_) (fun hc4=> ?_)
 refine aB (⟨({p.f with L:=r1.L,a:=r1.a,o:=r1.o,cp:=r1.cp}:G2),x1⟩:oQ) rfl (by(try dsimp only[kL]);first|exact⟨EQ hinv hi3,hI.msgs _ (gH (by assumption)),by omega,by omega,by omega⟩|exact⟨EQ hinv (Xr (by omega)),hI.msgs _ (gH (by assumption)),by omega,by omega,by omega⟩) fun r2 hi5=> ?_
 dsimp only[jp]at hi5
 exact aA (show dH r2.f∧r2.f.s0.l.length≤r2.f.cnt∧p.f.cnt≤r2.f.cnt∧r2.f.cnt≤p.f.cnt+1∧p.f.now≤r2.f.now∧r2.f.now≤p.f.now+10∧r2.f.L.length≤p.f.L.length+440 from(by obtain⟨z1,z2,z3,z4⟩:=ake hi5;dsimp only at z1 z2 z3 z4;have hm3:=hI.msgs _ (gH (by assumption));refine⟨aju hi5 (EQ (y:=p.f.L.length+400) hinv ?_) hm3,by omega,by omega,by omega,by omega,by omega,by omega⟩;assumption)) (au hK0 (⟨r2.f⟩:mM))
 exact aA (show dH ({p.f with L:=r1.L,a:=r1.a,o:=r1.o,cp:=r1.cp}:G2)∧p.f.s0.l.length≤p.f.cnt∧p.f.cnt≤p.f.cnt∧p.f.cnt≤p.f.cnt+1∧p.f.now≤p.f.now∧p.f.now≤p.f.now+10∧r1.L.length≤p.f.L.length+440 from(by have z4:=hi3.2.1;exact⟨EQ hinv hi3,by omega,by omega,by omega,by omega,by omega,by omega⟩)) (au hK0 (⟨({p.f with L:=r1.L,a:=r1.a,o:=r1.o,cp:=r1.cp}:G2)⟩:mM))
theorem ae9:dp Tryz.prog 175 1 kX false 1 MG:=by
 refine mO (lf:=600) bD (ay kR) (by rfl) (fun b j x h=>(bZ ae5 (fun h=>(by cases h)) h)) (fun S M nx K h=> ?_)
 obtain⟨p,h⟩:=bJ h
 obtain⟨e,h9⟩:=ae h
 clear h
 have e1:S=(iV p).1:=congrArg Prod.fst e
 have e2:M=(iV p).2.1:=congrArg (fun x=>x.2.1) e
 have e3:nx=(iV p).2.2:=congrArg (fun x=>x.2.2) e
 subst e1;subst e2;subst e3
 exact adO p K (ae h9).1 (ae h9).2
def iL (p:jM):Nat:=(10 - p.i).toNat
noncomputable def ML (s:IL) (n:Nat) (K:KC):Bool:=ax fun q=>mP (s=pK q∧iL q<n) (Fa q K)
theorem Wx {p q:jM} {K:KC} {s:IL} (hm:iL q<iL p) (hp:kw q) (hK:zX q K=true) (e:s=pK q):ML s (iL p) K=true:=aH q (bT ⟨e,hm⟩ (bT hp hK))
theorem adG (p:jM) (K:KC) (hpre:kw p) (hK:zX p K=true):(cC (bg oq) kX 600 Mz (pK p).1 (pK p).2.1 (pK p).2.2 (fun e S M nx=>Nat.casesOn e (ax fun q:jM=>ac (aF ((S,M,nx)=pK q∧iL q<iL p)) (Fa q K)) (fun e2=>K (Nat.succ e2) S M nx)))=true:=by
 refine Eq.trans (b:=(iP (p.i<(10:Int)) (iP (p.x=0) (bf (([.ptr 0 0,cE],(cd p.f (p.f.L.length - p.f.a) p.f.s0.l.length p.f.s1.l.length),24)) lE fg fi fun p2 r1=>mP (aL 0 (p.i+(1:Int))) (ML ((.cons 10 (.sy (.int 0 (p.i+(1:Int)))) (.cons 5 (.sy (.int 0 0)) (.cons 0 (.ptr 0 0) .nil))),(cd r1.f (r1.f.L.length - r1.f.a) r1.f.s0.l.length r1.f.s1.l.length),24) (iL p) K)) (iP (p.x=1) (ax fun p1:fU=>mP (([.ptr 0 0,sS],(cd p.f (p.f.L.length - p.f.a) p.f.s0.l.length p.f.s1.l.length),24)=lD p1) (mP (ff p1) (mP (aL 0 (p.i+(1:Int))) (ML ((.cons 10 (.sy (.int 0 (p.i+(1:Int)))) (.cons 5 (.sy (.int 0 1)) (.cons 0 (.ptr 0 0) .nil))),(cd ({p1.f with now:=p1.f.now+1}:G2) (p1.f.L.length - p1.f.a) p1.f.s0.l.length p1.f.s1.l.length),24) (iL p) K)))) (mP (False) (true)))) (K 3 .nil (cd p.f (p.f.L.length - p.f.a) p.f.s0.l.length p.f.s1.l.length) 24))) (by kernel_rfl) ?_
 dsimp only[kw]at hpre
 obtain⟨hinv,y1,y2,y3,y4,y5,y6,y7,y8,y9,y10⟩:=hpre
 have hI:FInv p.f.s0 _ _ (p.f.L.drop p.f.a):=hinv.1
 obtain⟨a0,a1,a2,a3,⟨b1,c1,d1,e1,f1⟩⟩:=rC hinv
 refine iI (fun hc1=> ?_) (fun hc1=> ?_)
 refine iI (fun hc2=> ?_) (fun hc2=> ?_)
 refine aB (⟨p.f⟩:hZ) rfl (by(try dsimp only[fg]);exact⟨by assumption,by omega,by omega,by omega⟩) fun r1 hi3=> ?_
 dsimp only[fi]at hi3
 refine aQ ?_
 exact Wx (q:=⟨r1.f,(0:Int),p.i+(1:Int)⟩) (by dsimp only[iL];omega) (by dsimp only[kw];obtain⟨z1,z2,z3,z4⟩:=jf hi3;exact⟨ka hinv hi3,by omega,by omega,by omega,by omega,by omega,by omega,by omega,by omega,by omega,by omega⟩) (by refine aj fun r=>iI (fun hz=> ?_) (fun _=>rfl);dsimp only[lO]at hz;obtain⟨z1,z2,z3,z4⟩:=jf hi3;exact aA (show lO p r from⟨hz.1,hz.2.1,by omega,by omega,by omega,by omega⟩) (au hK r)) rfl
 refine iI (fun hc4=> ?_) (fun hc4=> ?_)
 refine aP (⟨p.f⟩:fU) rfl (by(try dsimp only[ff]);exact⟨by assumption,by omega,by omega,by omega⟩) ?_
 refine aQ ?_
 exact Wx (q:=⟨({p.f with now:=p.f.now+1}:G2),(1:Int),p.i+(1:Int)⟩) (by dsimp only[iL];omega) (by dsimp only[kw];first|(exfalso;omega)|exact⟨hinv,by omega,by omega,by omega,by omega,by omega,by omega,by omega,by omega,by omega,by omega⟩) (by refine aj fun r=>iI (fun hz=> ?_) (fun _=>rfl);dsimp only[lO]at hz;exact aA (show lO p r from⟨hz.1,hz.2.1,by omega,by omega,by omega,by omega⟩) (au hK r)) rfl
 refine cZ ?_
 rfl
 exact ach hK ⟨p.f⟩ (by dsimp only[lO]<;>exact⟨hinv,by omega,by omega,by omega,by omega,by omega⟩)
theorem ae1:dp Tryz.prog 175 1 kX true 2 Mz:=by
 exact gD (lf:=600) bD (ay kR) (by rfl) pK iL Fa (fun b j x h=>by cases h) (fun S M nx K h=>by obtain⟨p,h⟩:=bJ h;exact⟨p,(ae h).1,(ae h).2⟩) (fun p K h=>adG p K (ae h).1 (ae h).2)
structure oH where
 f:G2
 s:Sg
structure MY where
 f:G2
def cK (p:oH) (r:MY):Prop:=dH r.f∧r.f.s0.l.length≤r.f.cnt∧p.f.cnt≤r.f.cnt∧r.f.cnt≤p.f.cnt+1∧p.f.now≤r.f.now∧r.f.now≤p.f.now+10∧r.f.L.length≤p.f.L.length+440
noncomputable def tT (p:oH):IE:=([.ptr 0 0,.agg [.sy (.int 0 p.s.k),.sy (.int 0 p.s.x),.sy (.int 0 p.s.y),.sy (.int 0 p.s.i)]],(cd p.f (p.f.L.length - p.f.a) p.f.s0.l.length p.f.s1.l.length),24)
noncomputable def Cd (p:oH) (K:KE):Bool:=ah fun r:MY=>iP (cK p r) (K (.tup []) (cd r.f (r.f.L.length - r.f.a) r.f.s0.l.length r.f.s1.l.length) 24) true
def kA (p:oH):Prop:=dH p.f∧p.f.s0.l.length≤p.f.cnt∧0≤p.f.cnt∧p.f.cnt≤300∧0≤p.f.now∧p.f.now≤100000∧p.f.L.length≤100000∧(p.s.k<8∨p.s.k=12)
theorem df {p:oH} {K:KE} (hK:Cd p K=true) (r:MY) (h:cK p r):K (.tup []) (cd r.f (r.f.L.length - r.f.a) r.f.s0.l.length r.f.s1.l.length) 24=true:=aA h (au hK r)
theorem aaL (p:oH) (K:KE) (hpre:kA p) (hK:Cd p K=true):(aY 1 (bg oq) kX 600 RQ (tT p).1 (tT p).2.1 (tT p).2.2 K)=true:=by
 refine Eq.trans (b:=(let y0:Int:=(Int.tmod ((Int.tmod p.s.x (2:Int))+(2:Int)) (2:Int));let y1:Int:=(Int.tmod (p.f.cnt+(1:Int)) (16:Int));mP ((2:Int)≠0) (mP (aL 0 ((Int.tmod p.s.x (2:Int))+(2:Int))) (mP ((2:Int)≠0) (mP ((2:Int)≠0) (mP (aL 0 ((Int.tmod p.s.y (2:Int))+(2:Int))) (mP ((2:Int)≠0) (iP (p.s.k=(0:Int)) (iP (y0=0) (bf (([.ptr 0 0,cE],(cd p.f (p.f.L.length - p.f.a) p.f.s0.l.length p.f.s1.l.length),24)) lE fg fi fun p2 r1=>K (.tup []) (cd r1.f (r1.f.L.length - r1.f.a) r1.f.s0.l.length r1.f.s1.l.length) 24) (iP (y0=1) (ax fun p1:fU=>mP (([.ptr 0 0,sS],(cd p.f (p.f.L.length - p.f.a) p.f.s0.l.length p.f.s1.l.length),24)=lD p1) (mP (ff p1) (K (.tup []) (cd ({p1.f with now:=p1.f.now+1}:G2) (p1.f.L.length - p1.f.a) p1.f.s0.l.length p1.f.s1.l.length) 24))) (mP (False) (true)))) (iP (p.s.k=(1:Int)) (ax fun p3:eA=>mP (((.cons 7 (.sy (.int 0 ((p.f.L.length - p.f.a:Nat):Int))) (.cons 3 (.ptr 1 0) (.cons 0 (.ptr 0 0) .nil))),(Us p.f p.s (p.f.L.length - p.f.a) p.f.s0.l.length p.f.s1.l.length),25)=iV p3) (mP (em p3) (ac (ah fun r3:mM=>iP (qj p3 r3) (K (.tup []) (cd r3.f (r3.f.L.length - r3.f.a) r3.f.s0.l.length r3.f.s1.l.length) 24) true) (ah fun r2:mr=>iP (nl p3 r2) (K (.tup []) (cd r2.f (r2.f.L.length - r2.f.a) r2.f.s0.l.length r2.f.s1.l.length) 24) true)))) (iP (p.s.k=(2:Int)) (ax fun p4:eA=>mP (((.cons 7 (.sy (.int 0 ((p.f.L.length - p.f.a:Nat):Int))) (.cons 3 (.ptr 1 0) (.cons 0 (.ptr 0 0) .nil))),(Us p.f p.s (p.f.L.length - p.f.a) p.f.s0.l.length p.f.s1.l.length),25)=iV p4) (mP (em p4) (ac (ah fun r5:mM=>iP (qj p4 r5) (K (.tup []) (cd r5.f (r5.f.L.length - r5.f.a) r5.f.s0.l.length r5.f.s1.l.length) 24) true) (ah fun r4:mr=>iP (nl p4 r4) (K (.tup []) (cd r4.f (r4.f.L.length - r4.f.a) r4.f.s0.l.length r4.f.s1.l.length) 24) true)))) (iP (p.s.k=(3:Int)) (ax fun p5:eA=>mP (((.cons 7 (.sy (.int 0 ((p.f.L.length - p.f.a:Nat):Int))) (.cons 3 (.ptr 1 0) (.cons 0 (.ptr 0 0) .nil))),(Us p.f p.s (p.f.L.length - p.f.a) p.f.s0.l.length p.f.s1.l.length),25)=iV p5) (mP (em p5) (ac (ah fun r7:mM=>iP (qj p5 r7) (K (.tup []) (cd r7.f (r7.f.L.length - r7.f.a) r7.f.s0.l.length r7.f.s1.l.length) 24) true) (ah fun r6:mr=>iP (nl p5 r6) (K (.tup []) (cd r6.f (r6.f.L.length - r6.f.a) r6.f.s0.l.length r6.f.s1.l.length) 24) true)))) (iP (p.s.k=(4:Int)) (ax fun p6:eA=>mP (((.cons 7 (.sy (.int 0 ((p.f.L.length - p.f.a:Nat):Int))) (.cons 3 (.ptr 1 0) (.cons 0 (.ptr 0 0) .nil))),(Us p.f p.s (p.f.L.length - p.f.a) p.f.s0.l.length p.f.s1.l.length),25)=iV p6) (mP (em p6) (ac (ah fun r9:mM=>iP (qj p6 r9) (K (.tup []) (cd r9.f (r9.f.L.length - r9.f.a) r9.f.s0.l.length r9.f.s1.l.length) 24) true) (ah fun r8:mr=>iP (nl p6 r8) (K (.tup []) (cd r8.f (r8.f.L.length - r8.f.a) r8.f.s0.l.length r8.f.s1.l.length) 24) true)))) (iP (p.s.k=(5:Int)) (ax fun p7:eA=>mP (((.cons 7 (.sy (.int 0 ((p.f.L.length - p.f.a:Nat):Int))) (.cons 3 (.ptr 1 0) (.cons 0 (.ptr 0 0) .nil))),(Us p.f p.s (p.f.L.length - p.f.a) p.f.s0.l.length p.f.s1.l.length),25)=iV p7) (mP (em p7) (ac (ah fun r11:mM=>iP (qj p7 r11) (K (.tup []) (cd r11.f (r11.f.L.length - r11.f.a) r11.f.s0.l.length r11.f.s1.l.length) 24) true) (ah fun r10:mr=>iP (nl p7 r10) (K (.tup []) (cd r10.f (r10.f.L.length - r10.f.a) r10.f.s0.l.length r10.f.s1.l.length) 24) true)))) (iP (p.s.k=(6:Int)) (ax fun p8:eA=>mP (((.cons 7 (.sy (.int 0 ((p.f.L.length - p.f.a:Nat):Int))) (.cons 3 (.ptr 1 0) (.cons 0 (.ptr 0 0) .nil))),(Us p.f p.s (p.f.L.length - p.f.a) p.f.s0.l.length p.f.s1.l.length),25)=iV p8) (mP (em p8) (ac (ah fun r13:mM=>iP (qj p8 r13) (K (.tup []) (cd r13.f (r13.f.L.length - r13.f.a) r13.f.s0.l.length r13.f.s1.l.length) 24) true) (ah fun r12:mr=>iP (nl p8 r12) (K (.tup []) (cd r12.f (r12.f.L.length - r12.f.a) r12.f.s0.l.length r12.f.s1.l.length) 24) true)))) (iP (p.s.k=(7:Int)) (iP (y0=0) (mP (aL 0 (p.f.cnt+(1:Int))) (mP ((16:Int)≠0) (mP (aL 1 y1) (mP ((16:Int)≠0) (mP (aL 0 (Int.tdiv (p.f.cnt+(1:Int)) (16:Int))) (mP (aL 0 ((1:Int)+(Int.tdiv (p.f.cnt+(1:Int)) (16:Int)))) (mP (aL 2 ((1:Int)+(Int.tdiv (p.f.cnt+(1:Int)) (16:Int)))) (bf (([.ptr 0 0,gK y1 ((1:Int)+(Int.tdiv (p.f.cnt+(1:Int)) (16:Int)))],(dB p.f.s0.l p.f.s0.com p.f.c0 p.f.c1),10)) yX rL uD fun p10 r15=>K (.tup []) (cd ({p.f with s0:=⟨r15.l,r15.com⟩,c0:=r15.c0,c1:=p10.c1,cnt:=p.f.cnt+(1:Int)}:G2) (p.f.L.length - p.f.a) r15.l.length p.f.s1.l.length) 24)))))))) (iP (y0=1) (mP (aL 0 (p.f.cnt+(1:Int))) (mP ((16:Int)≠0) (mP (aL 1 y1) (mP ((16:Int)≠0) (mP (aL 0 (Int.tdiv (p.f.cnt+(1:Int)) (16:Int))) (mP (aL 0 ((1:Int)+(Int.tdiv (p.f.cnt+(1:Int)) (16:Int)))) (mP (aL 2 ((1:Int)+(Int.tdiv (p.f.cnt+(1:Int)) (16:Int)))) (ax fun p9:ue=>mP (([.ptr 0 0,gK y1 ((1:Int)+(Int.tdiv (p.f.cnt+(1:Int)) (16:Int)))],(dJ p.f.s1.l p.f.s1.com 0 0 1),10)=yZ p9) (mP (rN p9) (ah fun r14:yR=>K (.tup []) (Fg2 ({p.f with s1:=⟨p9.l,p9.com⟩,cnt:=p.f.cnt+(1:Int)}:G2) p9.me p9.c0 p9.c1 (p.f.L.length - p.f.a) p.f.s0.l.length p9.l.length) 24)))))))))) (mP (False) (true)))) (iP (p.s.k=(8:Int)) (false) (iP (p.s.k=(9:Int)) (false) (iP (p.s.k=(10:Int)) (false) (iP (p.s.k=(11:Int)) (false) (iP (p.s.k=(12:Int)) (bf (((.cons 10 (.sy (.int 0 0)) (.cons 5 (.sy (.int 0 y0)) (.cons 0 (.ptr 0 0) .nil))),(cd p.f (p.f.L.length - p.f.a) p.f.s0.l.length p.f.s1.l.length),24)) pK kw lO fun p11 r16=>K (.tup []) (cd r16.f (r16.f.L.length - r16.f.a) r16.f.s0.l.length r16.f.s1.l.length) 24) (K (.tup []) (cd p.f (p.f.L.length - p.f.a) p.f.s0.l.length p.f.s1.l.length) 24))))))))))))))))))))) (by kernel_rfl) ?_
 dsimp only[kA]at hpre
 obtain⟨hinv,y1,y2,y3,y4,y5,y6,y7⟩:=hpre
 have hI:FInv p.f.s0 _ _ (p.f.L.drop p.f.a):=hinv.1
 obtain⟨a0,a1,a2,a3,⟨b1,c1,d1,e1,f1⟩⟩:=rC hinv
 have t1:=BJ 2 (by decide) p.s.x
 have t2:=tmp 2 (by decide) (p.s.x.tmod 2+2) (by omega)
 have t3:=BJ 2 (by decide) p.s.y
 have t4:=tmp 2 (by decide) (p.s.y.tmod 2+2) (by omega)
 have t5:=tmp 16 (by decide) (p.f.cnt+1) (by omega)
 have t6:=tdp (p.f.cnt+1) (by omega)
 refine mI (by decide) (aQ (mI (by decide) (mI (by decide) (aQ (mI (by decide) ?_)))))
 refine iI (fun hc1=> ?_) (fun hc1=> ?_)
 refine iI (fun hc2=> ?_) (fun hc2=> ?_)
 refine aB (⟨p.f⟩:hZ) rfl (by(try dsimp only[fg]);exact⟨by assumption,by omega,by omega,by omega⟩) fun r1 hi3=> ?_
 dsimp only[fi]at hi3
 exact df hK ⟨r1.f⟩ (by dsimp only[cK]<;>(first|(exfalso;omega)|exact hi3|(obtain⟨z1,z2,z3,z4⟩:=jf hi3;exact⟨ka hinv hi3,by omega,by omega,by omega,by omega,by omega,by omega⟩)|(obtain⟨z0,z1,z2,z3,z4,z5⟩:=hi3;exact⟨z0,by omega,by omega,by omega,by omega,by omega,by omega⟩)))
 refine iI (fun hc4=> ?_) (fun hc4=> ?_)
 refine aP (⟨p.f⟩:fU) rfl (by(try dsimp only[ff]);exact⟨by assumption,by omega,by omega,by omega⟩) ?_
 exact df hK ⟨({p.f with now:=p.f.now+1}:G2)⟩ (by dsimp only[cK]<;>(first|(exfalso;omega)|exact⟨hinv,by omega,by omega,by omega,by omega,by omega,by omega⟩))
 refine cZ ?_
 rfl
 refine iI (fun hc5=> ?_) (fun hc5=> ?_)
 refine aP (⟨p.f,p.s,((p.f.L.length - p.f.a:Nat):Int)⟩:eA) rfl (by(try dsimp only[em]);exact⟨by assumption,by omega,by omega,by omega,by omega,by omega,by omega,by omega,by omega,by omega⟩) ?_
 refine aG ?_ ?_
 refine aj (fun r3=> ?_)
 refine iI (p:=dH r3.f∧r3.f.s0.l.length≤r3.f.cnt∧p.f.cnt≤r3.f.cnt∧r3.f.cnt≤p.f.cnt+1∧p.f.now≤r3.f.now∧r3.f.now≤p.f.now+10∧r3.f.L.length≤p.f.L.length+440) (fun hi6=> ?_) (fun _=>rfl)
 exact df hK ⟨r3.f⟩ (by dsimp only[cK]<;>(first|(exfalso;omega)|exact hi6|(obtain⟨z1,z2,z3,z4⟩:=jf hi6;exact⟨ka hinv hi6,by omega,by omega,by omega,by omega,by omega,by omega⟩)|(obtain⟨z0,z1,z2,z3,z4,z5⟩:=hi6;exact⟨z0,by omega,by omega,by omega,by omega,by omega,by omega⟩)))
 refine aj (fun r2=> ?_)
 refine iI (p:=dH r2.f∧r2.f.s0.l.length≤r2.f.cnt∧p.f.cnt≤r2.f.cnt∧r2.f.cnt≤p.f.cnt+1∧p.f.now≤r2.f.now∧r2.f.now≤p.f.now+10∧r2.f.L.length≤p.f.L.length+440) (fun hi7=> ?_) (fun _=>rfl)
 exact df hK ⟨r2.f⟩ (by dsimp only[cK]<;>(first|(exfalso;omega)|exact hi7|(obtain⟨z1,z2,z3,z4⟩:=jf hi7;exact⟨ka hinv hi7,by omega,by omega,by omega,by omega,by omega,by omega⟩)|(obtain⟨z0,z1,z2,z3,z4,z5⟩:=hi7;exact⟨z0,by omega,by omega,by omega,by omega,by omega,by omega⟩)))
 refine iI (fun hc8=> ?_) (fun hc8=> ?_)
 refine aP (⟨p.f,p.s,((p.f.L.length - p.f.a:Nat):Int)⟩:eA) rfl (by(try dsimp only[em]);exact⟨by assumption,by omega,by omega,by omega,by omega,by omega,by omega,by omega,by omega,by omega⟩) ?_
 refine aG ?_ ?_
 refine aj (fun r5=> ?_)
 refine iI (p:=dH r5.f∧r5.f.s0.l.length≤r5.f.cnt∧p.f.cnt≤r5.f.cnt∧r5.f.cnt≤p.f.cnt+1∧p.f.now≤r5.f.now∧r5.f.now≤p.f.now+10∧r5.f.L.length≤p.f.L.length+440) (fun hi9=> ?_) (fun _=>rfl)
 exact df hK ⟨r5.f⟩ (by dsimp only[cK]<;>(first|(exfalso;omega)|exact hi9|(obtain⟨z1,z2,z3,z4⟩:=jf hi9;exact⟨ka hinv hi9,by omega,by omega,by omega,by omega,by omega,by omega⟩)|(obtain⟨z0,z1,z2,z3,z4,z5⟩:=hi9;exact⟨z0,by omega,by omega,by omega,by omega,by omega,by omega⟩)))
 refine aj (fun r4=> ?_)
 refine iI (p:=dH r4.f∧r4.f.s0.l.length≤r4.f.cnt∧p.f.cnt≤r4.f.cnt∧r4.f.cnt≤p.f.cnt+1∧p.f.now≤r4.f.now∧r4.f.now≤p.f.now+10∧r4.f.L.length≤p.f.L.length+440) (fun hi10=> ?_) (fun _=>rfl)
 exact df hK ⟨r4.f⟩ (by dsimp only[cK]<;>(first|(exfalso;omega)|exact hi10|(obtain⟨z1,z2,z3,z4⟩:=jf hi10;exact⟨ka hinv hi10,by omega,by omega,by omega,by omega,by omega,by omega⟩)|(obtain⟨z0,z1,z2,z3,z4,z5⟩:=hi10;exact⟨z0,by omega,by omega,by omega,by omega,by omega,by omega⟩)))
 refine iI (fun hc11=> ?_) (fun hc11=> ?_)
 refine aP (⟨p.f,p.s,((p.f.L.length - p.f.a:Nat):Int)⟩:eA) rfl (by(try dsimp only[em]);exact⟨by assumption,by omega,by omega,by omega,by omega,by omega,by omega,by omega,by omega,by omega⟩) ?_
 refine aG ?_ ?_
 refine aj (fun r7=> ?_)
 refine iI (p:=dH r7.f∧r7.f.s0.l.length≤r7.f.cnt∧p.f.cnt≤r7.f.cnt∧r7.f.cnt≤p.f.cnt+1∧p.f.now≤r7.f.now∧r7.f.now≤p.f.now+10∧r7.f.L.length≤p.f.L.length+440) (fun hi12=> ?_) (fun _=>rfl)
 exact df hK ⟨r7.f⟩ (by dsimp only[cK]<;>(first|(exfalso;omega)|exact hi12|(obtain⟨z1,z2,z3,z4⟩:=jf hi12;exact⟨ka hinv hi12,by omega,by omega,by omega,by omega,by omega,by omega⟩)|(obtain⟨z0,z1,z2,z3,z4,z5⟩:=hi12;exact⟨z0,by omega,by omega,by omega,by omega,by omega,by omega⟩)))
 refine aj (fun r6=> ?_)
 refine iI (p:=dH r6.f∧r6.f.s0.l.length≤r6.f.cnt∧p.f.cnt≤r6.f.cnt∧r6.f.cnt≤p.f.cnt+1∧p.f.now≤r6.f.now∧r6.f.now≤p.f.now+10∧r6.f.L.length≤p.f.L.length+440) (fun hi13=> ?_) (fun _=>rfl)
 exact df hK ⟨r6.f⟩ (by dsimp only[cK]<;>(first|(exfalso;omega)|exact hi13|(obtain⟨z1,z2,z3,z4⟩:=jf hi13;exact⟨ka hinv hi13,by omega,by omega,by omega,by omega,by omega,by omega⟩)|(obtain⟨z0,z1,z2,z3,z4,z5⟩:=hi13;exact⟨z0,by omega,by omega,by omega,by omega,by omega,by omega⟩)))
 refine iI (fun hc14=> ?_) (fun hc14=> ?_)
 refine aP (⟨p.f,p.s,((p.f.L.length - p.f.a:Nat):Int)⟩:eA) rfl (by(try dsimp only[em]);exact⟨by assumption,by omega,by omega,by omega,by omega,by omega,by omega,by omega,by omega,by omega⟩) ?_
 refine aG ?_ ?_
 refine aj (fun r9=> ?_)
 refine iI (p:=dH r9.f∧r9.f.s0.l.length≤r9.f.cnt∧p.f.cnt≤r9.f.cnt∧r9.f.cnt≤p.f.cnt+1∧p.f.now≤r9.f.now∧r9.f.now≤p.f.now+10∧r9.f.L.length≤p.f.L.length+440) (fun hi15=> ?_) (fun _=>rfl)
 exact df hK ⟨r9.f⟩ (by dsimp only[cK]<;>(first|(exfalso;omega)|exact hi15|(obtain⟨z1,z2,z3,z4⟩:=jf hi15;exact⟨ka hinv hi15,by omega,by omega,by omega,by omega,by omega,by omega⟩)|(obtain⟨z0,z1,z2,z3,z4,z5⟩:=hi15;exact⟨z0,by omega,by omega,by omega,by omega,by omega,by omega⟩)))
 refine aj (fun r8=> ?_)
 refine iI (p:=dH r8.f∧r8.f.s0.l.length≤r8.f.cnt∧p.f.cnt≤r8.f.cnt∧r8.f.cnt≤p.f.cnt+1∧p.f.now≤r8.f.now∧r8.f.now≤p.f.now+10∧r8.f.L.length≤p.f.L.length+440) (fun hi16=> ?_) (fun _=>rfl)
 exact df hK ⟨r8.f⟩ (by dsimp only[cK]<;>(first|(exfalso;omega)|exact hi16|(obtain⟨z1,z2,z3,z4⟩:=jf hi16;exact⟨ka hinv hi16,by omega,by omega,by omega,by omega,by omega,by omega⟩)|(obtain⟨z0,z1,z2,z3,z4,z5⟩:=hi16;exact⟨z0,by omega,by omega,by omega,by omega,by omega,by omega⟩)))
 refine iI (fun hc17=> ?_) (fun hc17=> ?_)
 refine aP (⟨p.f,p.s,((p.f.L.length - p.f.a:Nat):Int)⟩:eA) rfl (by(try dsimp only[em]);exact⟨by assumption,by omega,by omega,by omega,by omega,by omega,by omega,by omega,by omega,by omega⟩) ?_
 refine aG ?_ ?_
 refine aj (fun r11=> ?_)
 refine iI (p:=dH r11.f∧r11.f.s0.l.length≤r11.f.cnt∧p.f.cnt≤r11.f.cnt∧r11.f.cnt≤p.f.cnt+1∧p.f.now≤r11.f.now∧r11.f.now≤p.f.now+10∧r11.f.L.length≤p.f.L.length+440) (fun hi18=> ?_) (fun _=>rfl)
 exact df hK ⟨r11.f⟩ (by dsimp only[cK]<;>(first|(exfalso;omega)|exact hi18|(obtain⟨z1,z2,z3,z4⟩:=jf hi18;exact⟨ka hinv hi18,by omega,by omega,by omega,by omega,by omega,by omega⟩)|(obtain⟨z0,z1,z2,z3,z4,z5⟩:=hi18;exact⟨z0,by omega,by omega,by omega,by omega,by omega,by omega⟩)))
 refine aj (fun r10=> ?_)
 refine iI (p:=dH r10.f∧r10.f.s0.l.length≤r10.f.cnt∧p.f.cnt≤r10.f.cnt∧r10.f.cnt≤p.f.cnt+1∧p.f.now≤r10.f.now∧r10.f.now≤p.f.now+10∧r10.f.L.length≤p.f.L.length+440) (fun hi19=> ?_) (fun _=>rfl)
 exact df hK ⟨r10.f⟩ (by dsimp only[cK]<;>(first|(exfalso;omega)|exact hi19|(obtain⟨z1,z2,z3,z4⟩:=jf hi19;exact⟨ka hinv hi19,by omega,by omega,by omega,by omega,by omega,by omega⟩)|(obtain⟨z0,z1,z2,z3,z4,z5⟩:=hi19;exact⟨z0,by omega,by omega,by omega,by omega,by omega,by omega⟩)))
 refine iI (fun hc20=> ?_) (fun hc20=> ?_)
 refine aP (⟨p.f,p.s,((p.f.L.length - p.f.a:Nat):Int)⟩:eA) rfl (by(try dsimp only[em]);exact⟨by assumption,by omega,by omega,by omega,by omega,by omega,by omega,by omega,by omega,by omega⟩) ?_
 refine aG ?_ ?_
 refine aj (fun r13=> ?_)
 refine iI (p:=dH r13.f∧r13.f.s0.l.length≤r13.f.cnt∧p.f.cnt≤r13.f.cnt∧r13.f.cnt≤p.f.cnt+1∧p.f.now≤r13.f.now∧r13.f.now≤p.f.now+10∧r13.f.L.length≤p.f.L.length+440) (fun hi21=> ?_) (fun _=>rfl)
 exact df hK ⟨r13.f⟩ (by dsimp only[cK]<;>(first|(exfalso;omega)|exact hi21|(obtain⟨z1,z2,z3,z4⟩:=jf hi21;exact⟨ka hinv hi21,by omega,by omega,by omega,by omega,by omega,by omega⟩)|(obtain⟨z0,z1,z2,z3,z4,z5⟩:=hi21;exact⟨z0,by omega,by omega,by omega,by omega,by omega,by omega⟩)))
 refine aj (fun r12=> ?_)
 refine iI (p:=dH r12.f∧r12.f.s0.l.length≤r12.f.cnt∧p.f.cnt≤r12.f.cnt∧r12.f.cnt≤p.f.cnt+1∧p.f.now≤r12.f.now∧r12.f.now≤p.f.now+10∧r12.f.L.length≤p.f.L.length+440) (fun hi22=> ?_) (fun _=>rfl)
 exact df hK ⟨r12.f⟩ (by dsimp only[cK]<;>(first|(exfalso;omega)|exact hi22|(obtain⟨z1,z2,z3,z4⟩:=jf hi22;exact⟨ka hinv hi22,by omega,by omega,by omega,by omega,by omega,by omega⟩)|(obtain⟨z0,z1,z2,z3,z4,z5⟩:=hi22;exact⟨z0,by omega,by omega,by omega,by omega,by omega,by omega⟩)))
 refine iI (fun hc23=> ?_) (fun hc23=> ?_)
 refine iI (fun hc24=> ?_) (fun hc24=> ?_)
 refine aQ (mI (by decide) (aQ (mI (by decide) (aQ (aQ (aQ ?_))))))
 refine aB (⟨p.f.s0.l,p.f.s0.com,p.f.c0,p.f.c1,⟨Int.tmod (p.f.cnt+(1:Int)) (16:Int),(1:Int)+(Int.tdiv (p.f.cnt+(1:Int)) (16:Int))⟩⟩:qZ) rfl (by(try dsimp only[rL]);omega) fun r15 hi25=> ?_
 dsimp only[uD]at hi25
 exact df hK ⟨({p.f with s0:=⟨r15.l,r15.com⟩,c0:=r15.c0,c1:=p.f.c1,cnt:=p.f.cnt+(1:Int)}:G2)⟩ (by dsimp only[cK]<;>(first|(exfalso;omega)|(have zl:=congrArg List.length hi25.1;rw[akk]at zl;simp only[List.length_singleton]at zl;exact⟨⟨hI.add_ (by unfold EB;dsimp only;omega) (by omega) hi25 (by simp),a0⟩,by omega,by omega,by omega,by omega,by omega,by omega⟩)))
 refine iI (fun hc26=> ?_) (fun hc26=> ?_)
 refine aQ (mI (by decide) (aQ (mI (by decide) (aQ (aQ (aQ ?_))))))
 refine aP (⟨p.f.s1.l,p.f.s1.com,(0:Int),(0:Int),(1:Int),⟨Int.tmod (p.f.cnt+(1:Int)) (16:Int),(1:Int)+(Int.tdiv (p.f.cnt+(1:Int)) (16:Int))⟩⟩:ue) rfl (by(try dsimp only[rN]);omega) ?_
 refine aj (fun r14=> ?_)
 exact df hK ⟨({p.f with s1:=⟨p.f.s1.l,p.f.s1.com⟩,cnt:=p.f.cnt+(1:Int)}:G2)⟩ (by dsimp only[cK]<;>(first|(exfalso;omega)|exact⟨hinv,by omega,by omega,by omega,by omega,by omega,by omega⟩))
 refine cZ ?_
 rfl
 refine iI (fun hc27=> ?_) (fun hc27=> ?_)
 exfalso;omega
 refine iI (fun hc28=> ?_) (fun hc28=> ?_)
 exfalso;omega
 refine iI (fun hc29=> ?_) (fun hc29=> ?_)
 exfalso;omega
 refine iI (fun hc30=> ?_) (fun hc30=> ?_)
 exfalso;omega
 refine iI (fun hc31=> ?_) (fun hc31=> ?_)
 refine aB (⟨p.f,Int.tmod ((Int.tmod p.s.x (2:Int))+(2:Int)) (2:Int),(0:Int)⟩:jM) rfl (by(try dsimp only[kw]);exact⟨hinv,by omega,by omega,by omega,by omega,by omega,by omega,by omega,by omega,by omega,by omega⟩) fun r16 hi32=> ?_
 dsimp only[lO]at hi32
 exact df hK ⟨r16.f⟩ (by dsimp only[cK]<;>(first|(exfalso;omega)|exact hi32|(obtain⟨z1,z2,z3,z4⟩:=jf hi32;exact⟨ka hinv hi32,by omega,by omega,by omega,by omega,by omega,by omega⟩)|(obtain⟨z0,z1,z2,z3,z4,z5⟩:=hi32;exact⟨z0,by omega,by omega,by omega,by omega,by omega,by omega⟩)))
 exact df hK ⟨p.f⟩ (by dsimp only[cK]<;>(first|(exfalso;omega)|exact⟨hinv,by omega,by omega,by omega,by omega,by omega,by omega⟩))
noncomputable def Il:aM:=bn (mF 1 2) (be tT (cm kA Cd)) Im
theorem QC:aX Tryz.prog 10 1 Il:=aD (cS (f:=10) (k:=1) (lp:=kX) (lf:=600) bD (ay kR) UQ (by rfl) (fun b j x h=>(bZ ae9 (fun h=>(bZ ae1 (fun h=>(by cases h)) h)) h)) fun p K h=>aaL p K (ae h).1 (ae h).2) QD
noncomputable def ol:=aZ oq 1 Il 10 [(0,4),(1,15)]
theorem kQ:aE Tryz.prog ol:=az QC kR
def MC:XC:=tI
def MF:XC:=(.aft (.seq (.seq (g_ 2 [p_ 0 51 (m_ 7),p_ 1 52 (.bin 3 4 (.t 51) (i_ 0))]) (.cond (.t 52) .ret .skip)) (.seq (g_ 9 [p_ 0 53 (f_ 3 3),r_ 1 54 (l_ 53),p_ 2 55 (m_ 7),p_ 3 56 (.bin 0 4 (.t 54) (.t 55)),p_ 4 57 (m_ 7),p_ 5 58 (.bin 0 0 (.t 56) (.t 57)),p_ 6 59 (m_ 7),p_ 7 60 (.bin 0 4 (.t 58) (.t 59)),p_ 8 8 (m_ 60)]) (.seq (g_ 9 [p_ 0 61 (m_ 0),p_ 1 62 (n_ 61),p_ 2 63 (f_ 2 62),r_ 3 64 (l_ 63),p_ 4 65 (m_ 8),p_ 5 66 (.ixs 33 (.t 64) (.t 65)),r_ 6 67 (.ld true 33 (.t 66)),e_ 7 9 (.al 76 [.int 0 (.ofNat 0),.int 0 (.ofNat 0),.int 1 (.ofNat 0),.int 1 (.ofNat 0),.int 1 (.ofNat 0),.int 3 (.ofNat 0),.int 3 (.ofNat 0),.int 3 (.ofNat 0),.int 3 (.ofNat 0),.int 4 (.ofNat 0),.int 4 (.ofNat 0),.int 1 (.ofNat 0),.int 2 (.ofNat 0),.int 3 (.ofNat 0),.int 1 (.ofNat 0),.int 1 (.ofNat 0),.int 1 (.ofNat 0),.int 1 (.ofNat 0),.int 1 (.ofNat 0),.int 1 (.ofNat 0),.int 1 (.ofNat 0),.nilS,.int 1 (.ofNat 0),.str [],.int 1 (.ofNat 0),.int 3 (.ofNat 0),.nilS,.int 1 (.ofNat 0),.int 2 (.ofNat 0),.bool false,.nilS,.nilS,.nilS]),bm 8 (.st 33 (.t 9) (.t 67))]) (.seq (.pre [.can 1 [0,3,8,9]] (.spc 0 MC)) (.seq (g_ 3 [p_ 0 90 (f_ 0 3),r_ 1 91 (l_ 90),p_ 2 92 (.bin 3 5 (.t 91) (i_ 6))]) (.cond (.t 92) (g_ 3 [p_ 0 93 (m_ 0),r_ 1 94 (.ld true 33 (.t 9)),c_ 2 95 29 [.t 93,.t 94]]) .skip)))))) [(0,[.can 1 []]),(1,[.can 1 []])])
def My:XC:=(.aft (.seq (.seq (g_ 2 [p_ 0 168 (m_ 10),p_ 1 169 (.bin 3 0 (.t 168) (i_ 10))]) (.cond (.t 169) .skip (.exit 3))) (.seq (.block 4 (.pre [.fix 5 3] (g_ 3 [p_ 0 172 (m_ 0),p_ 1 173 (m_ 5),c_ 2 174 28 [.t 172,.t 173]]))) (g_ 3 [p_ 0 170 (m_ 10),p_ 1 171 (.bin 0 0 (.t 170) (i_ 1)),p_ 2 10 (m_ 171)]))) [(0,[.up 5,.can 1 [0,5,10]]),(3,[.can 1 []])])
def RP:XF:=.mk 175 .none (.seq (g_ 1 [e_ 0 3 (.box 28 (.t 1))]) (.seq (g_ 6 [p_ 0 11 (m_ 0),p_ 1 12 (n_ 11),p_ 2 13 (f_ 0 12),r_ 3 14 (l_ 13),p_ 4 15 (k_ 14),p_ 5 4 (m_ 15)]) (.seq (g_ 9 [p_ 0 16 (f_ 1 3),r_ 1 17 (l_ 16),p_ 2 18 (m_ 4),p_ 3 19 (.bin 0 4 (.t 17) (.t 18)),p_ 4 20 (m_ 4),p_ 5 21 (.bin 0 0 (.t 19) (.t 20)),p_ 6 22 (m_ 4),p_ 7 23 (.bin 0 4 (.t 21) (.t 22)),p_ 8 5 (m_ 23)]) (.seq (g_ 9 [p_ 0 24 (f_ 2 3),r_ 1 25 (l_ 24),p_ 2 26 (m_ 4),p_ 3 27 (.bin 0 4 (.t 25) (.t 26)),p_ 4 28 (m_ 4),p_ 5 29 (.bin 0 0 (.t 27) (.t 28)),p_ 6 30 (m_ 4),p_ 7 31 (.bin 0 4 (.t 29) (.t 30)),p_ 8 6 (m_ 31)]) (.seq (g_ 6 [p_ 0 32 (m_ 0),p_ 1 33 (n_ 32),p_ 2 34 (f_ 2 33),r_ 3 35 (l_ 34),p_ 4 36 (k_ 35),p_ 5 7 (m_ 36)]) (.seq (g_ 2 [p_ 0 37 (f_ 0 3),r_ 1 38 (l_ 37)]) (.block 2 (.seq (g_ 2 [p_ 0 40 (.bin 3 4 (.t 38) (i_ 0)),p_ 1 39 (m_ 40)]) (.cond (.t 39) (.pre [.fix 5 3] (g_ 3 [p_ 0 41 (m_ 0),p_ 1 42 (m_ 5),c_ 2 43 28 [.t 41,.t 42]])) (.seq (.seq (g_ 2 [p_ 0 45 (.bin 3 4 (.t 38) (i_ 1)),p_ 1 44 (m_ 45)]) (.cond (.t 44) .skip (.seq (g_ 2 [p_ 0 46 (.bin 3 4 (.t 38) (i_ 2)),p_ 1 44 (m_ 46)]) (.cond (.t 44) .skip (.seq (g_ 2 [p_ 0 47 (.bin 3 4 (.t 38) (i_ 3)),p_ 1 44 (m_ 47)]) (.cond (.t 44) .skip (.seq (g_ 2 [p_ 0 48 (.bin 3 4 (.t 38) (i_ 4)),p_ 1 44 (m_ 48)]) (.cond (.t 44) .skip (.seq (g_ 2 [p_ 0 49 (.bin 3 4 (.t 38) (i_ 5)),p_ 1 44 (m_ 49)]) (.cond (.t 44) .skip (g_ 2 [p_ 0 50 (.bin 3 4 (.t 38) (i_ 6)),p_ 1 44 (m_ 50)]))))))))))) (.cond (.t 44) (.pre [.can 1 [0,3,7]] (.spc 1 MF)) (.seq (g_ 2 [p_ 0 97 (.bin 3 4 (.t 38) (i_ 7)),p_ 1 96 (m_ 97)]) (.cond (.t 96) (.pre [.fix 5 3] (.seq (g_ 8 [p_ 0 98 (m_ 0),p_ 1 99 (n_ 98),p_ 2 100 (f_ 1 99),r_ 3 101 (l_ 100),p_ 4 102 (m_ 5),p_ 5 103 (.ixs 1 (.t 101) (.t 102)),r_ 6 104 (l_ 103),p_ 7 105 (.un 0 (.t 104))]) (.cond (.t 105) (.seq (g_ 8 [p_ 0 106 (m_ 0),p_ 1 107 (n_ 106),p_ 2 108 (f_ 4 107),r_ 3 109 (l_ 108),p_ 4 110 (.bin 0 0 (.t 109) (i_ 1)),p_ 5 111 (n_ 106),p_ 6 112 (f_ 4 111),bm 7 (.st 1 (.t 112) (.t 110))]) (h_ 13 [p_ 0 113 (m_ 0),p_ 1 114 (n_ 113),p_ 2 115 (f_ 0 114),r_ 3 116 (l_ 115),p_ 4 117 (m_ 5),p_ 5 118 (.ixs 1 (.t 116) (.t 117)),r_ 6 119 (l_ 118),p_ 7 120 (m_ 0),p_ 8 121 (n_ 120),p_ 9 122 (f_ 4 121),r_ 10 123 (l_ 122),c_ 11 124 25 [.t 123],a_ 3 116 (l_ 115),a_ 6 119 (l_ 118),c_ 12 125 24 [.t 119,.t 124]])) .skip))) (.seq (g_ 2 [p_ 0 127 (.bin 3 4 (.t 38) (i_ 8)),p_ 1 126 (m_ 127)]) (.cond (.t 126) (.pre [.die] (h_ 10 [p_ 0 128 (m_ 0),p_ 1 129 (n_ 128),p_ 2 130 (f_ 0 129),r_ 3 131 (l_ 130),p_ 4 132 (m_ 5),p_ 5 133 (.ixs 1 (.t 131) (.t 132)),r_ 6 134 (l_ 133),p_ 7 135 (m_ 6),c_ 8 136 21 [.t 135],a_ 3 131 (l_ 130),a_ 6 134 (l_ 133),c_ 9 137 20 [.t 134,.t 136]])) (.seq (g_ 2 [p_ 0 139 (.bin 3 4 (.t 38) (i_ 9)),p_ 1 138 (m_ 139)]) (.cond (.t 138) (.pre [.die] (g_ 8 [p_ 0 140 (m_ 0),p_ 1 141 (n_ 140),p_ 2 142 (f_ 0 141),r_ 3 143 (l_ 142),p_ 4 144 (m_ 5),p_ 5 145 (.ixs 1 (.t 143) (.t 144)),r_ 6 146 (l_ 145),c_ 7 147 17 [.t 146]])) (.seq (g_ 2 [p_ 0 149 (.bin 3 4 (.t 38) (i_ 10)),p_ 1 148 (m_ 149)]) (.cond (.t 148) (.pre [.die] (g_ 8 [p_ 0 150 (m_ 0),p_ 1 151 (n_ 150),p_ 2 152 (f_ 0 151),r_ 3 153 (l_ 152),p_ 4 154 (m_ 5),p_ 5 155 (.ixs 1 (.t 153) (.t 154)),r_ 6 156 (l_ 155),c_ 7 157 18 [.t 156]])) (.seq (g_ 2 [p_ 0 159 (.bin 3 4 (.t 38) (i_ 11)),p_ 1 158 (m_ 159)]) (.cond (.t 158) (.pre [.die] (g_ 7 [p_ 0 160 (m_ 0),p_ 1 161 (n_ 160),p_ 2 162 (f_ 1 161),r_ 3 163 (l_ 162),p_ 4 164 (m_ 5),p_ 5 165 (.ixs 1 (.t 163) (.t 164)),bm 6 (.st 1 (.t 165) (.c (.bool true)))])) (.seq (g_ 2 [p_ 0 167 (.bin 3 4 (.t 38) (i_ 12)),p_ 1 166 (m_ 167)]) (.cond (.t 166) (.seq (g_ 1 [p_ 0 10 (.mv (i_ 0))]) (.block 3 (.pre [.can 1 [0,5,10],.up 10,.can 1 [0,5,10]] (.inv 2 My)))) .skip)))))))))))))))))))))))
theorem UP:aW Tryz.prog 10 RP=true:=by kernel_rfl
structure jL where
 f:G3
 x:Int
 i:Int
structure TW where
 f:G3
def iH (p:jL) (r:TW):Prop:=dD r.f∧r.f.s0.l.length≤r.f.cnt∧r.f.cnt=p.f.cnt∧p.f.now≤r.f.now∧r.f.now≤p.f.now+(10 - p.i)∧(r.f.L.length:Int)≤(p.f.L.length:Int)+3*(10 - p.i)
noncomputable def pJ (p:jL):IL:=((.cons 10 (.sy (.int 0 p.i)) (.cons 5 (.sy (.int 0 p.x)) (.cons 0 (.ptr 0 0) .nil))),(bP p.f (p.f.L.length - p.f.a) p.f.s0.l.length p.f.s1.l.length p.f.s2.l.length),34)
noncomputable def zW (p:jL) (K:KC):Bool:=ah fun r:TW=>iP (iH p r) (K 3 .nil (bP r.f (r.f.L.length - r.f.a) r.f.s0.l.length r.f.s1.l.length r.f.s2.l.length) 34) true
def jm (p:jL):Prop:=dD p.f∧p.f.s0.l.length≤p.f.cnt∧0≤p.f.cnt∧p.f.cnt≤300∧0≤p.f.now∧p.f.now≤100000+p.i∧(p.f.L.length:Int)≤100000+3*p.i∧0≤p.x∧p.x<3∧0≤p.i∧p.i≤10
theorem acg {p:jL} {K:KC} (hK:zW p K=true) (r:TW) (h:iH p r):K 3 .nil (bP r.f (r.f.L.length - r.f.a) r.f.s0.l.length r.f.s1.l.length r.f.s2.l.length) 34=true:=aA h (au hK r)
noncomputable def EZ (p:jL) (K:KC):Bool:=ac (aF (jm p)) (zW p K)
structure pY where
 f:G3
 s:Sg
 t:Fl
 j:Int
structure Ua where
 L:List Fl
 a:Nat
 o:Nat
 cp:Nat
def lQ (p:pY) (r:Ua):Prop:=r.a≤r.L.length∧r.L.length≤p.f.L.length+400∧(r.L.drop r.a).length≤400∧∀x,x∈r.L.drop r.a→x∈p.f.L.drop p.f.a
noncomputable def sM (p:pY):IL:=((.cons 9 (.ptr 2 0) (.cons 8 (.sy (.int 0 p.j)) (.cons 3 (.ptr 1 0) (.cons 0 (.ptr 0 0) .nil)))),(Lk p.f p.s p.t (p.f.L.length - p.f.a) p.f.s0.l.length p.f.s1.l.length p.f.s2.l.length),36)
noncomputable def Hq (p:pY) (K:KC):Bool:=ah fun r:Ua=>iP (lQ p r) (K 0 (.cons 9 (.ptr 2 0) (.cons 3 (.ptr 1 0) (.cons 0 (.ptr 0 0) .nil))) (Lk ({p.f with L:=r.L,a:=r.a,o:=r.o,cp:=r.cp}:G3) p.s p.t (r.L.length - r.a) p.f.s0.l.length p.f.s1.l.length p.f.s2.l.length) 36) true
def um (p:pY):Prop:=dD p.f∧0≤p.j∧p.j<((p.f.L.length - p.f.a:Nat):Int)
theorem vq {p:pY} {K:KC} (hK:Hq p K=true) (r:Ua) (h:lQ p r):K 0 (.cons 9 (.ptr 2 0) (.cons 3 (.ptr 1 0) (.cons 0 (.ptr 0 0) .nil))) (Lk ({p.f with L:=r.L,a:=r.a,o:=r.o,cp:=r.cp}:G3) p.s p.t (r.L.length - r.a) p.f.s0.l.length p.f.s1.l.length p.f.s2.l.length) 36=true:=aA h (au hK r)
noncomputable def aeo (p:pY) (K:KC):Bool:=ac (aF (um p)) (Hq p K)
structure ez where
 f:G3
 s:Sg
 kk:Int
structure mL where
 f:G3
structure mq where
 f:G3
def qh (p:ez) (r:mL):Prop:=dD r.f∧r.f.s0.l.length≤r.f.cnt∧p.f.cnt≤r.f.cnt∧r.f.cnt≤p.f.cnt+1∧p.f.now≤r.f.now∧r.f.now≤p.f.now+10∧r.f.L.length≤p.f.L.length+440
def ni (p:ez) (r:mq):Prop:=dD r.f∧r.f.s0.l.length≤r.f.cnt∧p.f.cnt≤r.f.cnt∧r.f.cnt≤p.f.cnt+1∧p.f.now≤r.f.now∧r.f.now≤p.f.now+10∧r.f.L.length≤p.f.L.length+440
noncomputable def iU (p:ez):IL:=((.cons 7 (.sy (.int 0 p.kk)) (.cons 3 (.ptr 1 0) (.cons 0 (.ptr 0 0) .nil))),(Ur p.f p.s (p.f.L.length - p.f.a) p.f.s0.l.length p.f.s1.l.length p.f.s2.l.length),35)
noncomputable def Qj (p:ez) (K:KC):Bool:=ac (ah fun r:mL=>iP (qh p r) (K 0 .nil (bP r.f (r.f.L.length - r.f.a) r.f.s0.l.length r.f.s1.l.length r.f.s2.l.length) 34) true) (ah fun r:mq=>iP (ni p r) (K 1 .nil (bP r.f (r.f.L.length - r.f.a) r.f.s0.l.length r.f.s1.l.length r.f.s2.l.length) 34) true)
def ek (p:ez):Prop:=dD p.f∧p.f.s0.l.length≤p.f.cnt∧0≤p.f.cnt∧p.f.cnt≤300∧0≤p.f.now∧p.f.now≤100000∧p.f.L.length≤100000∧1≤p.s.k∧p.s.k≤6∧p.kk=((p.f.L.length - p.f.a:Nat):Int)
noncomputable def aes (p:ez) (K:KC):Bool:=ac (aF (ek p)) (Qj p K)
noncomputable def kW:gB:=fun j S M nx K=>(Bool.rec ((Bool.rec ((Bool.rec (false) (ax fun p:ez=>ac (aF ((S,M,nx)=iU p)) (aes p K)) (Nat.beq j 1))) (ax fun p:pY=>ac (aF ((S,M,nx)=sM p)) (aeo p K)) (Nat.beq j 0))) (ax fun p:jL=>ac (aF ((S,M,nx)=pJ p)) (EZ p K)) (Nat.beq j 2))
theorem adJ (p:pY) (K:KC) (hpre:um p) (hK:Hq p K=true):(cC (bg ol) kW 600 MC (sM p).1 (sM p).2.1 (sM p).2.2 K)=true:=by
 refine Eq.trans (b:=(iP (¬p.s.k=(5:Int)) (mP (0≤(0:Int)∧(0:Int)≤p.j∧p.j≤((p.f.L.length - p.f.a:Nat):Int)) (mP (aL 0 (p.j+(1:Int))) (mP (0≤(p.j+(1:Int))∧(p.j+(1:Int))≤((p.f.L.length - p.f.a:Nat):Int)∧((p.f.L.length - p.f.a:Nat):Int)≤((p.f.L.length - p.f.a:Nat):Int)) (mP (((.psub 5 33 p.f.a (p.f.L.length - p.f.a) p.f.o (some p.f.cp)):SY)=(.psub 5 33 p.f.a (p.f.L.length - p.f.a) p.f.o (some p.f.cp))) (mP (0≤(0:Int)∧(0:Int)≤p.j∧p.j≤((p.f.L.length - p.f.a:Nat):Int)) (mP (((.psub 5 33 p.f.a p.j.toNat (if p.f.cp=p.f.a then p.f.o else p.f.a*33) (some p.f.cp)):SY)=(.psub 5 33 p.f.a p.j.toNat (if p.f.cp=p.f.a then p.f.o else p.f.a*33) (some p.f.cp))) (mP (((.psub 5 33 p.f.a (p.f.L.length - p.f.a) p.f.o (some p.f.cp)):SY)=(.psub 5 33 p.f.a (p.f.L.length - p.f.a) p.f.o (some p.f.cp))) (mP (0≤(p.j+(1:Int))∧(p.j+(1:Int))≤((p.f.L.length - p.f.a:Nat):Int)∧((p.f.L.length - p.f.a:Nat):Int)≤((p.f.L.length - p.f.a:Nat):Int)) (mP (((.psub 5 33 (p.f.a+((p.j+(1:Int)).toNat)) ((p.f.L.length - p.f.a) - ((p.j+(1:Int)).toNat)) (if p.f.cp=p.f.a then p.f.o else p.f.a*33) (some p.f.cp)):SY)=(.psub 5 33 (p.f.a+((p.j+(1:Int)).toNat)) ((p.f.L.length - p.f.a) - ((p.j+(1:Int)).toNat)) (if p.f.cp=p.f.a then p.f.o else p.f.a*33) (some p.f.cp))) (mP (p.f.a+p.j.toNat≤p.f.L.length) (iP (((p.f.L.drop p.f.a).take p.j.toNat)=[]) (mP (((.psub 5 33 p.f.a (p.f.L.length - p.f.a) p.f.o (some p.f.cp)):SY)=(.psub 5 33 p.f.a (p.f.L.length - p.f.a) p.f.o (some p.f.cp))) (mP (0≤(p.j+(1:Int))∧(p.j+(1:Int))≤((p.f.L.length - p.f.a:Nat):Int)∧((p.f.L.length - p.f.a:Nat):Int)≤((p.f.L.length - p.f.a:Nat):Int)) (mP (((.psub 5 33 (p.f.a+((p.j+(1:Int)).toNat)) ((p.f.L.length - p.f.a) - ((p.j+(1:Int)).toNat)) (if p.f.cp=p.f.a then p.f.o else p.f.a*33) (some p.f.cp)):SY)=(.psub 5 33 (p.f.a+((p.j+(1:Int)).toNat)) ((p.f.L.length - p.f.a) - ((p.j+(1:Int)).toNat)) (if p.f.cp=p.f.a then p.f.o else p.f.a*33) (some p.f.cp))) (mP ((p.f.a+((p.j+(1:Int)).toNat))+((p.f.L.length - p.f.a) - ((p.j+(1:Int)).toNat))≤p.f.L.length) (iP (((p.f.L.drop (p.f.a+((p.j+(1:Int)).toNat))).take ((p.f.L.length - p.f.a) - ((p.j+(1:Int)).toNat)))=[]) (mP ((.sl 36 0 0 (.ex 0):AV)=(.sl 36 0 0 (.ex 0):AV)) (mP (0=([]:List Fl).length) (ah fun u1:Nat=>K 0 (.cons 9 (.ptr 2 0) (.cons 3 (.ptr 1 0) (.cons 0 (.ptr 0 0) .nil))) (Lk ({p.f with L:=([]:List Fl),a:=(0:Nat),o:=(0:Nat),cp:=u1}:G3) p.s p.t 0 p.f.s0.l.length p.f.s1.l.length p.f.s2.l.length) 36))) (mP (aC 232 ((p.f.L.drop (p.f.a+((p.j+(1:Int)).toNat))).take ((p.f.L.length - p.f.a) - ((p.j+(1:Int)).toNat))).length) (mP ((((p.f.L.drop (p.f.a+((p.j+(1:Int)).toNat))).take ((p.f.L.length - p.f.a) - ((p.j+(1:Int)).toNat))).length)=((p.f.L.drop (p.f.a+((p.j+(1:Int)).toNat))).take ((p.f.L.length - p.f.a) - ((p.j+(1:Int)).toNat))).length) (ah fun u2:Nat=>K 0 (.cons 9 (.ptr 2 0) (.cons 3 (.ptr 1 0) (.cons 0 (.ptr 0 0) .nil))) (Lk ({p.f with L:=(p.f.L.drop (p.f.a+((p.j+(1:Int)).toNat))).take ((p.f.L.length - p.f.a) - ((p.j+(1:Int)).toNat)),a:=(0:Nat),o:=(0:Nat),cp:=u2}:G3) p.s p.t (((p.f.L.drop (p.f.a+((p.j+(1:Int)).toNat))).take ((p.f.L.length - p.f.a) - ((p.j+(1:Int)).toNat))).length) p.f.s0.l.length p.f.s1.l.length p.f.s2.l.length) 36)))))))) (mP (aC 232 ((p.f.L.drop p.f.a).take p.j.toNat).length) (mP (((.psub 5 33 p.f.a (p.f.L.length - p.f.a) p.f.o (some p.f.cp)):SY)=(.psub 5 33 p.f.a (p.f.L.length - p.f.a) p.f.o (some p.f.cp))) (mP (0≤(p.j+(1:Int))∧(p.j+(1:Int))≤((p.f.L.length - p.f.a:Nat):Int)∧((p.f.L.length - p.f.a:Nat):Int)≤((p.f.L.length - p.f.a:Nat):Int)) (mP (((.psub 5 33 (p.f.a+((p.j+(1:Int)).toNat)) ((p.f.L.length - p.f.a) - ((p.j+(1:Int)).toNat)) (if p.f.cp=p.f.a then p.f.o else p.f.a*33) (some p.f.cp)):SY)=(.psub 5 33 (p.f.a+((p.j+(1:Int)).toNat)) ((p.f.L.length - p.f.a) - ((p.j+(1:Int)).toNat)) (if p.f.cp=p.f.a then p.f.o else p.f.a*33) (some p.f.cp))) (mP ((p.f.a+((p.j+(1:Int)).toNat))+((p.f.L.length - p.f.a) - ((p.j+(1:Int)).toNat))≤p.f.L.length) (mP ((((p.f.L.drop p.f.a).take p.j.toNat).length)=((p.f.L.drop p.f.a).take p.j.toNat).length) (iP (((p.f.L.drop (p.f.a+((p.j+(1:Int)).toNat))).take ((p.f.L.length - p.f.a) - ((p.j+(1:Int)).toNat)))=[]) (mP ((((p.f.L.drop p.f.a).take p.j.toNat).length)=((p.f.L.drop p.f.a).take p.j.toNat).length) (ah fun u4:Nat=>K 0 (.cons 9 (.ptr 2 0) (.cons 3 (.ptr 1 0) (.cons 0 (.ptr 0 0) .nil))) (Lk ({p.f with L:=(p.f.L.drop p.f.a).take p.j.toNat,a:=(0:Nat),o:=(0:Nat),cp:=u4}:G3) p.s p.t (((p.f.L.drop p.f.a).take p.j.toNat).length) p.f.s0.l.length p.f.s1.l.length p.f.s2.l.length) 36)) (ax fun m1:List Fl=>mP (bz (m1.map cw) (((p.f.L.drop (p.f.a+((p.j+(1:Int)).toNat))).take ((p.f.L.length - p.f.a) - ((p.j+(1:Int)).toNat))).map cw)) (mP (aC 232 (((p.f.L.drop p.f.a).take p.j.toNat).length+m1.length)) (mP (((((p.f.L.drop p.f.a).take p.j.toNat)++m1).length)=(((p.f.L.drop p.f.a).take p.j.toNat)++m1).length) (ah fun u3:Nat=>K 0 (.cons 9 (.ptr 2 0) (.cons 3 (.ptr 1 0) (.cons 0 (.ptr 0 0) .nil))) (Lk ({p.f with L:=((p.f.L.drop p.f.a).take p.j.toNat)++m1,a:=(0:Nat),o:=(0:Nat),cp:=u3}:G3) p.s p.t ((((p.f.L.drop p.f.a).take p.j.toNat)++m1).length) p.f.s0.l.length p.f.s1.l.length p.f.s2.l.length) 36)))))))))))))))))))))) (K 0 (.cons 9 (.ptr 2 0) (.cons 3 (.ptr 1 0) (.cons 0 (.ptr 0 0) .nil))) (Lk p.f p.s p.t (p.f.L.length - p.f.a) p.f.s0.l.length p.f.s1.l.length p.f.s2.l.length) 36))) (by kernel_rfl) ?_
 dsimp only[um]at hpre
 obtain⟨hinv,k1,k2⟩:=hpre
 have hI:FInv p.f.s0 _ _ (p.f.L.drop p.f.a):=hinv.1
 obtain⟨a0,a1,a2,a3,⟨b1,c1,d1,e1,f1⟩,⟨b2,c2,d2,e2,f2⟩⟩:=pv hinv
 have few:=hI.few
 have few2:=few
 rw[akG]at few2
 refine iI (fun hc1=> ?_) (fun hc1=> ?_)
 refine mI (by(first|omega|(simp[aC]<;>omega))) (aQ (mI (by(first|omega|(simp[aC]<;>omega))) (aK (mI (by(first|omega|(simp[aC]<;>omega))) (aK (aK (mI (by(first|omega|(simp[aC]<;>omega))) (aK (mI (by(first|omega|(simp[aC]<;>omega))) ?_)))))))))
 refine iI (fun hc2=> ?_) (fun hc2=> ?_)
 have hc2l:(((p.f.L.drop p.f.a).take p.j.toNat)).length=0:=(by rw[hc2];rfl)
 refine aK (mI (by(first|omega|(simp[aC]<;>omega))) (aK (mI (by(first|omega|(simp[aC]<;>omega))) ?_)))
 refine iI (fun hc3=> ?_) (fun hc3=> ?_)
 have hc3l:(((p.f.L.drop (p.f.a+((p.j+(1:Int)).toNat))).take ((p.f.L.length - p.f.a) - ((p.j+(1:Int)).toNat)))).length=0:=(by rw[hc3];rfl)
 refine aK (aK ?_)
 refine aj (fun u1=> ?_)
 exact vq hK ⟨([]:List Fl),(0:Nat),(0:Nat),u1⟩ (by dsimp only[lQ]<;>(refine⟨Nat.zero_le _,?_,?_,fun x hx=> ?_⟩<;>first|(simp only[akk,aky,akG,akn];omega)|exact cj x hx (by omega)|exact List.mem_of_mem_take hx|(exact cj (i:=0) (n:=_) x (by simpa using hx) (by omega))|(simp at hx;done)))
 have hc3l:0<(((p.f.L.drop (p.f.a+((p.j+(1:Int)).toNat))).take ((p.f.L.length - p.f.a) - ((p.j+(1:Int)).toNat)))).length:=List.length_pos_iff.2 hc3
 refine mI (by first|(simp only[aC,akk,aky,akG];omega)|(simp only[aC,akl,akn];omega)|(simp only[akl,akn]at*;unfold aC;omega)) (aK ?_)
 refine aj (fun u2=> ?_)
 exact vq hK ⟨(p.f.L.drop (p.f.a+((p.j+(1:Int)).toNat))).take ((p.f.L.length - p.f.a) - ((p.j+(1:Int)).toNat)),(0:Nat),(0:Nat),u2⟩ (by dsimp only[lQ]<;>(refine⟨Nat.zero_le _,?_,?_,fun x hx=> ?_⟩<;>first|(simp only[akk,aky,akG,akn];omega)|exact cj x hx (by omega)|exact List.mem_of_mem_take hx|(exact cj (i:=0) (n:=_) x (by simpa using hx) (by omega))|(simp at hx;done)))
 have hc2l:0<(((p.f.L.drop p.f.a).take p.j.toNat)).length:=List.length_pos_iff.2 hc2
 refine mI (by first|(simp only[aC,akk,aky,akG];omega)|(simp only[aC,akl,akn];omega)|(simp only[akl,akn]at*;unfold aC;omega)) (aK (mI (by(first|omega|(simp[aC]<;>omega))) (aK (mI (by(first|omega|(simp[aC]<;>omega))) (aK ?_)))))
 refine iI (fun hc4=> ?_) (fun hc4=> ?_)
 have hc4l:(((p.f.L.drop (p.f.a+((p.j+(1:Int)).toNat))).take ((p.f.L.length - p.f.a) - ((p.j+(1:Int)).toNat)))).length=0:=(by rw[hc4];rfl)
 refine aK ?_
 refine aj (fun u4=> ?_)
 exact vq hK ⟨(p.f.L.drop p.f.a).take p.j.toNat,(0:Nat),(0:Nat),u4⟩ (by dsimp only[lQ]<;>(refine⟨Nat.zero_le _,?_,?_,fun x hx=> ?_⟩<;>first|(simp only[akk,aky,akG,akn];omega)|exact cj x hx (by omega)|exact List.mem_of_mem_take hx|(exact cj (i:=0) (n:=_) x (by simpa using hx) (by omega))|(simp at hx;done)))
 have hc4l:0<(((p.f.L.drop (p.f.a+((p.j+(1:Int)).toNat))).take ((p.f.L.length - p.f.a) - ((p.j+(1:Int)).toNat)))).length:=List.length_pos_iff.2 hc4
 refine aH ((p.f.L.drop (p.f.a+((p.j+(1:Int)).toNat))).take ((p.f.L.length - p.f.a) - ((p.j+(1:Int)).toNat))) ?_
 refine mI (show bz (((p.f.L.drop (p.f.a+((p.j+(1:Int)).toNat))).take ((p.f.L.length - p.f.a) - ((p.j+(1:Int)).toNat))).map cw) (((p.f.L.drop (p.f.a+((p.j+(1:Int)).toNat))).take ((p.f.L.length - p.f.a) - ((p.j+(1:Int)).toNat))).map cw) from cR _) (mI (by(try dsimp only);first|(simp only[aC,akk,aky,akG];omega)|(simp only[aC,akl,akn];omega)|(simp only[akl,akn]at*;unfold aC;omega)) ?_)
 refine aK ?_
 refine aj (fun u3=> ?_)
 exact vq hK ⟨((p.f.L.drop p.f.a).take p.j.toNat)++((p.f.L.drop (p.f.a+((p.j+(1:Int)).toNat))).take ((p.f.L.length - p.f.a) - ((p.j+(1:Int)).toNat))),(0:Nat),(0:Nat),u3⟩ (by dsimp only[lQ]<;>(refine⟨Nat.zero_le _,?_,?_,fun x hx=> ?_⟩<;>first|(simp only[akk,aky,akG,akn];omega)|exact cj x hx (by omega)|exact List.mem_of_mem_take hx|(exact cj (i:=0) (n:=_) x (by simpa using hx) (by omega))|(simp at hx;done)))
 exact vq hK ⟨p.f.L,p.f.a,p.f.o,p.f.cp⟩ (by dsimp only[lQ]<;>exact⟨a0,by omega,few,fun _ h=>h⟩)
theorem ae4:dp Tryz.prog 175 1 kW false 0 MC:=by
 refine mO (lf:=600) bD (ay kQ) (by rfl) (fun b j x h=>by cases h) (fun S M nx K h=> ?_)
 obtain⟨p,h⟩:=bJ h
 obtain⟨e,h9⟩:=ae h
 clear h
 have e1:S=(sM p).1:=congrArg Prod.fst e
 have e2:M=(sM p).2.1:=congrArg (fun x=>x.2.1) e
 have e3:nx=(sM p).2.2:=congrArg (fun x=>x.2.2) e
 subst e1;subst e2;subst e3
 exact adJ p K (ae h9).1 (ae h9).2
theorem adN (p:ez) (K:KC) (hpre:ek p) (hK:Qj p K=true):(cC (bg ol) kW 600 MF (iU p).1 (iU p).2.1 (iU p).2.2 K)=true:=by
 refine Eq.trans (b:=(let y0:Int:=(Int.tmod ((Int.tmod p.s.i p.kk)+p.kk) p.kk);iP (p.kk=(0:Int)) (K 1 .nil (bP p.f (p.f.L.length - p.f.a) p.f.s0.l.length p.f.s1.l.length p.f.s2.l.length) 34) (mP (p.kk≠0) (mP (aL 0 ((Int.tmod p.s.i p.kk)+p.kk)) (mP (p.kk≠0) (mP (0≤y0∧y0<((p.f.L.length - p.f.a:Nat):Int)) (mP ((p.f.a+(y0.toNat))<p.f.L.length) (ah fun x1:Fl=>iP (p.f.L[p.f.a+(y0.toNat)]?=some x1) (bf (((.cons 9 (.ptr 2 0) (.cons 8 (.sy (.int 0 y0)) (.cons 3 (.ptr 1 0) (.cons 0 (.ptr 0 0) .nil)))),(Lk p.f p.s x1 (p.f.L.length - p.f.a) p.f.s0.l.length p.f.s1.l.length p.f.s2.l.length),36)) sM um lQ fun p1 r1=>iP (¬p1.s.k=(6:Int)) (bf (([.ptr 0 0,.agg [.sy (.int 0 p1.t.fr),.sy (.int 0 p1.t.to),.sy (.int 1 p1.t.k),aa,aa,bt,.sy (.int 3 p1.t.n),.sy (.int 3 p1.t.c),aw,aI,aI,aa,aJ,aw,aa,aa,aa,aa,aa,aa,aa,.nilS,aa,.str [],aa,aw,.nilS,aa,aJ,.bool false,.nilS,.sy (.imm p1.t.h 18 Ke p1.t.l ai),.nilS]],(bP ({p1.f with L:=r1.L,a:=r1.a,o:=r1.o,cp:=r1.cp}:G3) (r1.L.length - r1.a) p1.f.s0.l.length p1.f.s1.l.length p1.f.s2.l.length),34)) uc kK gp fun p2 r2=>K 0 .nil (bP r2.f (r2.f.L.length - r2.f.a) r2.f.s0.l.length r2.f.s1.l.length r2.f.s2.l.length) 34) (K 0 .nil (bP ({p1.f with L:=r1.L,a:=r1.a,o:=r1.o,cp:=r1.cp}:G3) (r1.L.length - r1.a) p1.f.s0.l.length p1.f.s1.l.length p1.f.s2.l.length) 34)) true)))))))) (by kernel_rfl) ?_
 obtain⟨hK0,hKr0⟩:=aq hK
 have hK1:=hKr0
 dsimp only[ek]at hpre
 obtain⟨hinv,y1,y2,y3,y4,y5,y6,y7,y8,y9⟩:=hpre
 have hI:FInv p.f.s0 _ _ (p.f.L.drop p.f.a):=hinv.1
 obtain⟨a0,a1,a2,a3,⟨b1,c1,d1,e1,f1⟩,⟨b2,c2,d2,e2,f2⟩⟩:=pv hinv
 have t6:=tmk p.kk p.s.i
 have t7:=Xp p.kk p.s.i
 refine iI (fun hc1=> ?_) (fun hc1=> ?_)
 exact aA (show dD p.f∧p.f.s0.l.length≤p.f.cnt∧p.f.cnt≤p.f.cnt∧p.f.cnt≤p.f.cnt+1∧p.f.now≤p.f.now∧p.f.now≤p.f.now+10∧p.f.L.length≤p.f.L.length+440 from(by first|(exfalso;omega)|exact⟨hinv,by omega,by omega,by omega,by omega,by omega,by omega⟩)) (au hK1 (⟨p.f⟩:mq))
 refine cZ (aQ (cZ (gy (cZ ?_))))
 refine aj (fun x1=> ?_)
 refine iI (fun hi2=> ?_) (fun _=>rfl)
 refine aB (⟨p.f,p.s,x1,Int.tmod ((Int.tmod p.s.i p.kk)+p.kk) p.kk⟩:pY) rfl (by(try dsimp only[um]);exact⟨hinv,by omega,by omega⟩) fun r1 hi3=> ?_
 dsimp only[lQ]at hi3
 refine iI (p:=¬p.s.k=(6:Int)) (fun hc4=> ?_) (fun hc4=> ?_)
 refine aB (⟨({p.f with L:=r1.L,a:=r1.a,o:=r1.o,cp:=r1.cp}:G3),x1⟩:oP) rfl (by(try dsimp only[kK]);first|exact⟨EP hinv hi3,hI.msgs _ (gH (by assumption)),by omega,by omega,by omega⟩|exact⟨EP hinv (Xr (by omega)),hI.msgs _ (gH (by assumption)),by omega,by omega,by omega⟩) fun r2 hi5=> ?_
 dsimp only[gp]at hi5
 exact aA (show dD r2.f∧r2.f.s0.l.length≤r2.f.cnt∧p.f.cnt≤r2.f.cnt∧r2.f.cnt≤p.f.cnt+1∧p.f.now≤r2.f.now∧r2.f.now≤p.f.now+10∧r2.f.L.length≤p.f.L.length+440 from(by obtain⟨z1,z2,z3,z4⟩:=akd hi5;dsimp only at z1 z2 z3 z4;have hm3:=hI.msgs _ (gH (by assumption));refine⟨ajt hi5 (EP (y:=p.f.L.length+400) hinv ?_) hm3,by omega,by omega,by omega,by omega,by omega,by omega⟩;assumption)) (au hK0 (⟨r2.f⟩:mL))
 exact aA (show dD ({p.f with L:=r1.L,a:=r1.a,o:=r1.o,cp:=r1.cp}:G3)∧p.f.s0.l.length≤p.f.cnt∧p.f.cnt≤p.f.cnt∧p.f.cnt≤p.f.cnt+1∧p.f.now≤p.f.now∧p.f.now≤p.f.now+10∧r1.L.length≤p.f.L.length+440 from(by have z4:=hi3.2.1;exact⟨EP hinv hi3,by omega,by omega,by omega,by omega,by omega,by omega⟩)) (au hK0 (⟨({p.f with L:=r1.L,a:=r1.a,o:=r1.o,cp:=r1.cp}:G3)⟩:mL))
theorem ae8:dp Tryz.prog 175 1 kW false 1 MF:=by
 refine mO (lf:=600) bD (ay kQ) (by rfl) (fun b j x h=>(bZ ae4 (fun h=>(by cases h)) h)) (fun S M nx K h=> ?_)
 obtain⟨p,h⟩:=bJ h
 obtain⟨e,h9⟩:=ae h
 clear h
 have e1:S=(iU p).1:=congrArg Prod.fst e
 have e2:M=(iU p).2.1:=congrArg (fun x=>x.2.1) e
 have e3:nx=(iU p).2.2:=congrArg (fun x=>x.2.2) e
 subst e1;subst e2;subst e3
 exact adN p K (ae h9).1 (ae h9).2
def fY (p:jL):Nat:=(10 - p.i).toNat
noncomputable def Fx (s:IL) (n:Nat) (K:KC):Bool:=ax fun q=>mP (s=pJ q∧fY q<n) (EZ q K)
theorem Ms {p q:jL} {K:KC} {s:IL} (hm:fY q<fY p) (hp:jm q) (hK:zW q K=true) (e:s=pJ q):Fx s (fY p) K=true:=aH q (bT ⟨e,hm⟩ (bT hp hK))
theorem adF (p:jL) (K:KC) (hpre:jm p) (hK:zW p K=true):(cC (bg ol) kW 600 My (pJ p).1 (pJ p).2.1 (pJ p).2.2 (fun e S M nx=>Nat.casesOn e (ax fun q:jL=>ac (aF ((S,M,nx)=pJ q∧fY q<fY p)) (EZ q K)) (fun e2=>K (Nat.succ e2) S M nx)))=true:=by
 refine Eq.trans (b:=(iP (p.i<(10:Int)) (iP (p.x=0) (bf (([.ptr 0 0,cE],(bP p.f (p.f.L.length - p.f.a) p.f.s0.l.length p.f.s1.l.length p.f.s2.l.length),34)) lC fe eE fun p3 r1=>mP (aL 0 (p.i+(1:Int))) (Fx ((.cons 10 (.sy (.int 0 (p.i+(1:Int)))) (.cons 5 (.sy (.int 0 0)) (.cons 0 (.ptr 0 0) .nil))),(bP r1.f (r1.f.L.length - r1.f.a) r1.f.s0.l.length r1.f.s1.l.length r1.f.s2.l.length),34) (fY p) K)) (iP (p.x=1) (ax fun p2:fT=>mP (([.ptr 0 0,sS],(bP p.f (p.f.L.length - p.f.a) p.f.s0.l.length p.f.s1.l.length p.f.s2.l.length),34)=lB p2) (mP (fc p2) (mP (aL 0 (p.i+(1:Int))) (Fx ((.cons 10 (.sy (.int 0 (p.i+(1:Int)))) (.cons 5 (.sy (.int 0 1)) (.cons 0 (.ptr 0 0) .nil))),(bP ({p2.f with now:=p2.f.now+1}:G3) (p2.f.L.length - p2.f.a) p2.f.s0.l.length p2.f.s1.l.length p2.f.s2.l.length),34) (fY p) K)))) (iP (p.x=2) (ax fun p1:fS=>mP (([.ptr 0 0,nw],(bP p.f (p.f.L.length - p.f.a) p.f.s0.l.length p.f.s1.l.length p.f.s2.l.length),34)=lA p1) (mP (fb p1) (mP (aL 0 (p.i+(1:Int))) (Fx ((.cons 10 (.sy (.int 0 (p.i+(1:Int)))) (.cons 5 (.sy (.int 0 2)) (.cons 0 (.ptr 0 0) .nil))),(bP ({p1.f with now:=p1.f.now+1}:G3) (p1.f.L.length - p1.f.a) p1.f.s0.l.length p1.f.s1.l.length p1.f.s2.l.length),34) (fY p) K)))) (mP (False) (true))))) (K 3 .nil (bP p.f (p.f.L.length - p.f.a) p.f.s0.l.length p.f.s1.l.length p.f.s2.l.length) 34))) (by kernel_rfl) ?_
 dsimp only[jm]at hpre
 obtain⟨hinv,y1,y2,y3,y4,y5,y6,y7,y8,y9,y10⟩:=hpre
 have hI:FInv p.f.s0 _ _ (p.f.L.drop p.f.a):=hinv.1
 obtain⟨a0,a1,a2,a3,⟨b1,c1,d1,e1,f1⟩,⟨b2,c2,d2,e2,f2⟩⟩:=pv hinv
 refine iI (fun hc1=> ?_) (fun hc1=> ?_)
 refine iI (fun hc2=> ?_) (fun hc2=> ?_)
 refine aB (⟨p.f⟩:hX) rfl (by(try dsimp only[fe]);exact⟨by assumption,by omega,by omega,by omega⟩) fun r1 hi3=> ?_
 dsimp only[eE]at hi3
 refine aQ ?_
 exact Ms (q:=⟨r1.f,(0:Int),p.i+(1:Int)⟩) (by dsimp only[fY];omega) (by dsimp only[jm];obtain⟨z1,z2,z3,z4⟩:=iE hi3;exact⟨jg hinv hi3,by omega,by omega,by omega,by omega,by omega,by omega,by omega,by omega,by omega,by omega⟩) (by refine aj fun r=>iI (fun hz=> ?_) (fun _=>rfl);dsimp only[iH]at hz;obtain⟨z1,z2,z3,z4⟩:=iE hi3;exact aA (show iH p r from⟨hz.1,hz.2.1,by omega,by omega,by omega,by omega⟩) (au hK r)) rfl
 refine iI (fun hc4=> ?_) (fun hc4=> ?_)
 refine aP (⟨p.f⟩:fT) rfl (by(try dsimp only[fc]);exact⟨by assumption,by omega,by omega,by omega⟩) ?_
 refine aQ ?_
 exact Ms (q:=⟨({p.f with now:=p.f.now+1}:G3),(1:Int),p.i+(1:Int)⟩) (by dsimp only[fY];omega) (by dsimp only[jm];first|(exfalso;omega)|exact⟨hinv,by omega,by omega,by omega,by omega,by omega,by omega,by omega,by omega,by omega,by omega⟩) (by refine aj fun r=>iI (fun hz=> ?_) (fun _=>rfl);dsimp only[iH]at hz;exact aA (show iH p r from⟨hz.1,hz.2.1,by omega,by omega,by omega,by omega⟩) (au hK r)) rfl
 refine iI (fun hc5=> ?_) (fun hc5=> ?_)
 refine aP (⟨p.f⟩:fS) rfl (by(try dsimp only[fb]);exact⟨by assumption,by omega,by omega,by omega⟩) ?_
 refine aQ ?_
 exact Ms (q:=⟨({p.f with now:=p.f.now+1}:G3),(2:Int),p.i+(1:Int)⟩) (by dsimp only[fY];omega) (by dsimp only[jm];first|(exfalso;omega)|exact⟨hinv,by omega,by omega,by omega,by omega,by omega,by omega,by omega,by omega,by omega,by omega⟩) (by refine aj fun r=>iI (fun hz=> ?_) (fun _=>rfl);dsimp only[iH]at hz;exact aA (show iH p r from⟨hz.1,hz.2.1,by omega,by omega,by omega,by omega⟩) (au hK r)) rfl
 refine cZ ?_
 rfl
 exact acg hK ⟨p.f⟩ (by dsimp only[iH]<;>exact⟨hinv,by omega,by omega,by omega,by omega,by omega⟩)
theorem ae0:dp Tryz.prog 175 1 kW true 2 My:=by
 exact gD (lf:=600) bD (ay kQ) (by rfl) pJ fY EZ (fun b j x h=>by cases h) (fun S M nx K h=>by obtain⟨p,h⟩:=bJ h;exact⟨p,(ae h).1,(ae h).2⟩) (fun p K h=>adF p K (ae h).1 (ae h).2)
structure oG where
 f:G3
 s:Sg
structure MX where
 f:G3
def cy (p:oG) (r:MX):Prop:=dD r.f∧r.f.s0.l.length≤r.f.cnt∧p.f.cnt≤r.f.cnt∧r.f.cnt≤p.f.cnt+1∧p.f.now≤r.f.now∧r.f.now≤p.f.now+10∧r.f.L.length≤p.f.L.length+440
noncomputable def tS (p:oG):IE:=([.ptr 0 0,.agg [.sy (.int 0 p.s.k),.sy (.int 0 p.s.x),.sy (.int 0 p.s.y),.sy (.int 0 p.s.i)]],(bP p.f (p.f.L.length - p.f.a) p.f.s0.l.length p.f.s1.l.length p.f.s2.l.length),34)
noncomputable def Cc (p:oG) (K:KE):Bool:=ah fun r:MX=>iP (cy p r) (K (.tup []) (bP r.f (r.f.L.length - r.f.a) r.f.s0.l.length r.f.s1.l.length r.f.s2.l.length) 34) true
def kz (p:oG):Prop:=dD p.f∧p.f.s0.l.length≤p.f.cnt∧0≤p.f.cnt∧p.f.cnt≤300∧0≤p.f.now∧p.f.now≤100000∧p.f.L.length≤100000∧(p.s.k<8∨p.s.k=12)
theorem cT {p:oG} {K:KE} (hK:Cc p K=true) (r:MX) (h:cy p r):K (.tup []) (bP r.f (r.f.L.length - r.f.a) r.f.s0.l.length r.f.s1.l.length r.f.s2.l.length) 34=true:=aA h (au hK r)
theorem aaK (p:oG) (K:KE) (hpre:kz p) (hK:Cc p K=true):(aY 1 (bg ol) kW 600 RP (tS p).1 (tS p).2.1 (tS p).2.2 K)=true:=by
 refine Eq.trans (b:=(let y0:Int:=(Int.tmod ((Int.tmod p.s.x (3:Int))+(3:Int)) (3:Int));let y1:Int:=(Int.tmod (p.f.cnt+(1:Int)) (16:Int));mP ((3:Int)≠0) (mP (aL 0 ((Int.tmod p.s.x (3:Int))+(3:Int))) (mP ((3:Int)≠0) (mP ((3:Int)≠0) (mP (aL 0 ((Int.tmod p.s.y (3:Int))+(3:Int))) (mP ((3:Int)≠0) (iP (p.s.k=(0:Int)) (iP (y0=0) (bf (([.ptr 0 0,cE],(bP p.f (p.f.L.length - p.f.a) p.f.s0.l.length p.f.s1.l.length p.f.s2.l.length),34)) lC fe eE fun p3 r1=>K (.tup []) (bP r1.f (r1.f.L.length - r1.f.a) r1.f.s0.l.length r1.f.s1.l.length r1.f.s2.l.length) 34) (iP (y0=1) (ax fun p2:fT=>mP (([.ptr 0 0,sS],(bP p.f (p.f.L.length - p.f.a) p.f.s0.l.length p.f.s1.l.length p.f.s2.l.length),34)=lB p2) (mP (fc p2) (K (.tup []) (bP ({p2.f with now:=p2.f.now+1}:G3) (p2.f.L.length - p2.f.a) p2.f.s0.l.length p2.f.s1.l.length p2.f.s2.l.length) 34))) (iP (y0=2) (ax fun p1:fS=>mP (([.ptr 0 0,nw],(bP p.f (p.f.L.length - p.f.a) p.f.s0.l.length p.f.s1.l.length p.f.s2.l.length),34)=lA p1) (mP (fb p1) (K (.tup []) (bP ({p1.f with now:=p1.f.now+1}:G3) (p1.f.L.length - p1.f.a) p1.f.s0.l.length p1.f.s1.l.length p1.f.s2.l.length) 34))) (mP (False) (true))))) (iP (p.s.k=(1:Int)) (ax fun p4:ez=>mP (((.cons 7 (.sy (.int 0 ((p.f.L.length - p.f.a:Nat):Int))) (.cons 3 (.ptr 1 0) (.cons 0 (.ptr 0 0) .nil))),(Ur p.f p.s (p.f.L.length - p.f.a) p.f.s0.l.length p.f.s1.l.length p.f.s2.l.length),35)=iU p4) (mP (ek p4) (ac (ah fun r3:mL=>iP (qh p4 r3) (K (.tup []) (bP r3.f (r3.f.L.length - r3.f.a) r3.f.s0.l.length r3.f.s1.l.length r3.f.s2.l.length) 34) true) (ah fun r2:mq=>iP (ni p4 r2) (K (.tup []) (bP r2.f (r2.f.L.length - r2.f.a) r2.f.s0.l.length r2.f.s1.l.length r2.f.s2.l.length) 34) true)))) (iP (p.s.k=(2:Int)) (ax fun p5:ez=>mP (((.cons 7 (.sy (.int 0 ((p.f.L.length - p.f.a:Nat):Int))) (.cons 3 (.ptr 1 0) (.cons 0 (.ptr 0 0) .nil))),(Ur p.f p.s (p.f.L.length - p.f.a) p.f.s0.l.length p.f.s1.l.length p.f.s2.l.length),35)=iU p5) (mP (ek p5) (ac (ah fun r5:mL=>iP (qh p5 r5) (K (.tup []) (bP r5.f (r5.f.L.length - r5.f.a) r5.f.s0.l.length r5.f.s1.l.length r5.f.s2.l.length) 34) true) (ah fun r4:mq=>iP (ni p5 r4) (K (.tup []) (bP r4.f (r4.f.L.length - r4.f.a) r4.f.s0.l.length r4.f.s1.l.length r4.f.s2.l.length) 34) true)))) (iP (p.s.k=(3:Int)) (ax fun p6:ez=>mP (((.cons 7 (.sy (.int 0 ((p.f.L.length - p.f.a:Nat):Int))) (.cons 3 (.ptr 1 0) (.cons 0 (.ptr 0 0) .nil))),(Ur p.f p.s (p.f.L.length - p.f.a) p.f.s0.l.length p.f.s1.l.length p.f.s2.l.length),35)=iU p6) (mP (ek p6) (ac (ah fun r7:mL=>iP (qh p6 r7) (K (.tup []) (bP r7.f (r7.f.L.length - r7.f.a) r7.f.s0.l.length r7.f.s1.l.length r7.f.s2.l.length) 34) true) (ah fun r6:mq=>iP (ni p6 r6) (K (.tup []) (bP r6.f (r6.f.L.length - r6.f.a) r6.f.s0.l.length r6.f.s1.l.length r6.f.s2.l.length) 34) true)))) (iP (p.s.k=(4:Int)) (ax fun p7:ez=>mP (((.cons 7 (.sy (.int 0 ((p.f.L.length - p.f.a:Nat):Int))) (.cons 3 (.ptr 1 0) (.cons 0 (.ptr 0 0) .nil))),(Ur p.f p.s (p.f.L.length - p.f.a) p.f.s0.l.length p.f.s1.l.length p.f.s2.l.length),35)=iU p7) (mP (ek p7) (ac (ah fun r9:mL=>iP (qh p7 r9) (K (.tup []) (bP r9.f (r9.f.L.length - r9.f.a) r9.f.s0.l.length r9.f.s1.l.length r9.f.s2.l.length) 34) true) (ah fun r8:mq=>iP (ni p7 r8) (K (.tup []) (bP r8.f (r8.f.L.length - r8.f.a) r8.f.s0.l.length r8.f.s1.l.length r8.f.s2.l.length) 34) true)))) (iP (p.s.k=(5:Int)) (ax fun p8:ez=>mP (((.cons 7 (.sy (.int 0 ((p.f.L.length - p.f.a:Nat):Int))) (.cons 3 (.ptr 1 0) (.cons 0 (.ptr 0 0) .nil))),(Ur p.f p.s (p.f.L.length - p.f.a) p.f.s0.l.length p.f.s1.l.length p.f.s2.l.length),35)=iU p8) (mP (ek p8) (ac (ah fun r11:mL=>iP (qh p8 r11) (K (.tup []) (bP r11.f (r11.f.L.length - r11.f.a) r11.f.s0.l.length r11.f.s1.l.length r11.f.s2.l.length) 34) true) (ah fun r10:mq=>iP (ni p8 r10) (K (.tup []) (bP r10.f (r10.f.L.length - r10.f.a) r10.f.s0.l.length r10.f.s1.l.length r10.f.s2.l.length) 34) true)))) (iP (p.s.k=(6:Int)) (ax fun p9:ez=>mP (((.cons 7 (.sy (.int 0 ((p.f.L.length - p.f.a:Nat):Int))) (.cons 3 (.ptr 1 0) (.cons 0 (.ptr 0 0) .nil))),(Ur p.f p.s (p.f.L.length - p.f.a) p.f.s0.l.length p.f.s1.l.length p.f.s2.l.length),35)=iU p9) (mP (ek p9) (ac (ah fun r13:mL=>iP (qh p9 r13) (K (.tup []) (bP r13.f (r13.f.L.length - r13.f.a) r13.f.s0.l.length r13.f.s1.l.length r13.f.s2.l.length) 34) true) (ah fun r12:mq=>iP (ni p9 r12) (K (.tup []) (bP r12.f (r12.f.L.length - r12.f.a) r12.f.s0.l.length r12.f.s1.l.length r12.f.s2.l.length) 34) true)))) (iP (p.s.k=(7:Int)) (iP (y0=0) (mP (aL 0 (p.f.cnt+(1:Int))) (mP ((16:Int)≠0) (mP (aL 1 y1) (mP ((16:Int)≠0) (mP (aL 0 (Int.tdiv (p.f.cnt+(1:Int)) (16:Int))) (mP (aL 0 ((1:Int)+(Int.tdiv (p.f.cnt+(1:Int)) (16:Int)))) (mP (aL 2 ((1:Int)+(Int.tdiv (p.f.cnt+(1:Int)) (16:Int)))) (bf (([.ptr 0 0,gK y1 ((1:Int)+(Int.tdiv (p.f.cnt+(1:Int)) (16:Int)))],(dA p.f.s0.l p.f.s0.com p.f.c0 p.f.c1 p.f.c2),10)) yW rK uC fun p12 r16=>K (.tup []) (bP ({p.f with s0:=⟨r16.l,r16.com⟩,c0:=r16.c0,c1:=p12.c1,c2:=p12.c2,cnt:=p.f.cnt+(1:Int)}:G3) (p.f.L.length - p.f.a) r16.l.length p.f.s1.l.length p.f.s2.l.length) 34)))))))) (iP (y0=1) (mP (aL 0 (p.f.cnt+(1:Int))) (mP ((16:Int)≠0) (mP (aL 1 y1) (mP ((16:Int)≠0) (mP (aL 0 (Int.tdiv (p.f.cnt+(1:Int)) (16:Int))) (mP (aL 0 ((1:Int)+(Int.tdiv (p.f.cnt+(1:Int)) (16:Int)))) (mP (aL 2 ((1:Int)+(Int.tdiv (p.f.cnt+(1:Int)) (16:Int)))) (ax fun p11:oE=>mP (([.ptr 0 0,gK y1 ((1:Int)+(Int.tdiv (p.f.cnt+(1:Int)) (16:Int)))],(dm p.f.s1.l p.f.s1.com 0 0 0 1),10)=tQ p11) (mP (kx p11) (ah fun r15:tL=>K (.tup []) (Ln ({p.f with s1:=⟨p11.l,p11.com⟩,cnt:=p.f.cnt+(1:Int)}:G3) p11.me p11.c0 p11.c1 p11.c2 2 0 0 0 (p.f.L.length - p.f.a) p.f.s0.l.length p11.l.length p.f.s2.l.length) 34)))))))))) (iP (y0=2) (mP (aL 0 (p.f.cnt+(1:Int))) (mP ((16:Int)≠0) (mP (aL 1 y1) (mP ((16:Int)≠0) (mP (aL 0 (Int.tdiv (p.f.cnt+(1:Int)) (16:Int))) (mP (aL 0 ((1:Int)+(Int.tdiv (p.f.cnt+(1:Int)) (16:Int)))) (mP (aL 2 ((1:Int)+(Int.tdiv (p.f.cnt+(1:Int)) (16:Int)))) (ax fun p10:oE=>mP (([.ptr 0 0,gK y1 ((1:Int)+(Int.tdiv (p.f.cnt+(1:Int)) (16:Int)))],(dm p.f.s2.l p.f.s2.com 0 0 0 2),10)=tQ p10) (mP (kx p10) (ah fun r14:tL=>K (.tup []) (Ln ({p.f with s2:=⟨p10.l,p10.com⟩,cnt:=p.f.cnt+(1:Int)}:G3) 1 0 0 0 p10.me p10.c0 p10.c1 p10.c2 (p.f.L.length - p.f.a) p.f.s0.l.length p.f.s1.l.length p10.l.length) 34)))))))))) (mP (False) (true))))) (iP (p.s.k=(8:Int)) (false) (iP (p.s.k=(9:Int)) (false) (iP (p.s.k=(10:Int)) (false) (iP (p.s.k=(11:Int)) (false) (iP (p.s.k=(12:Int)) (bf (((.cons 10 (.sy (.int 0 0)) (.cons 5 (.sy (.int 0 y0)) (.cons 0 (.ptr 0 0) .nil))),(bP p.f (p.f.L.length - p.f.a) p.f.s0.l.length p.f.s1.l.length p.f.s2.l.length),34)) pJ jm iH fun p13 r17=>K (.tup []) (bP r17.f (r17.f.L.length - r17.f.a) r17.f.s0.l.length r17.f.s1.l.length r17.f.s2.l.length) 34) (K (.tup []) (bP p.f (p.f.L.length - p.f.a) p.f.s0.l.length p.f.s1.l.length p.f.s2.l.length) 34))))))))))))))))))))) (by kernel_rfl) ?_
 dsimp only[kz]at hpre
 obtain⟨hinv,y1,y2,y3,y4,y5,y6,y7⟩:=hpre
 have hI:FInv p.f.s0 _ _ (p.f.L.drop p.f.a):=hinv.1
 obtain⟨a0,a1,a2,a3,⟨b1,c1,d1,e1,f1⟩,⟨b2,c2,d2,e2,f2⟩⟩:=pv hinv
 have t1:=BJ 3 (by decide) p.s.x
 have t2:=tmp 3 (by decide) (p.s.x.tmod 3+3) (by omega)
 have t3:=BJ 3 (by decide) p.s.y
 have t4:=tmp 3 (by decide) (p.s.y.tmod 3+3) (by omega)
 have t5:=tmp 16 (by decide) (p.f.cnt+1) (by omega)
 have t6:=tdp (p.f.cnt+1) (by omega)
 refine mI (by decide) (aQ (mI (by decide) (mI (by decide) (aQ (mI (by decide) ?_)))))
 refine iI (fun hc1=> ?_) (fun hc1=> ?_)
 refine iI (fun hc2=> ?_) (fun hc2=> ?_)
 refine aB (⟨p.f⟩:hX) rfl (by(try dsimp only[fe]);exact⟨by assumption,by omega,by omega,by omega⟩) fun r1 hi3=> ?_
 dsimp only[eE]at hi3
 exact cT hK ⟨r1.f⟩ (by dsimp only[cy]<;>(first|(exfalso;omega)|exact hi3|(obtain⟨z1,z2,z3,z4⟩:=iE hi3;exact⟨jg hinv hi3,by omega,by omega,by omega,by omega,by omega,by omega⟩)|(obtain⟨z0,z1,z2,z3,z4,z5⟩:=hi3;exact⟨z0,by omega,by omega,by omega,by omega,by omega,by omega⟩)))
 refine iI (fun hc4=> ?_) (fun hc4=> ?_)
 refine aP (⟨p.f⟩:fT) rfl (by(try dsimp only[fc]);exact⟨by assumption,by omega,by omega,by omega⟩) ?_
 exact cT hK ⟨({p.f with now:=p.f.now+1}:G3)⟩ (by dsimp only[cy]<;>(first|(exfalso;omega)|exact⟨hinv,by omega,by omega,by omega,by omega,by omega,by omega⟩))
 refine iI (fun hc5=> ?_) (fun hc5=> ?_)
 refine aP (⟨p.f⟩:fS) rfl (by(try dsimp only[fb]);exact⟨by assumption,by omega,by omega,by omega⟩) ?_
 exact cT hK ⟨({p.f with now:=p.f.now+1}:G3)⟩ (by dsimp only[cy]<;>(first|(exfalso;omega)|exact⟨hinv,by omega,by omega,by omega,by omega,by omega,by omega⟩))
 refine cZ ?_
 rfl
 refine iI (fun hc6=> ?_) (fun hc6=> ?_)
 refine aP (⟨p.f,p.s,((p.f.L.length - p.f.a:Nat):Int)⟩:ez) rfl (by(try dsimp only[ek]);exact⟨by assumption,by omega,by omega,by omega,by omega,by omega,by omega,by omega,by omega,by omega⟩) ?_
 refine aG ?_ ?_
 refine aj (fun r3=> ?_)
 refine iI (p:=dD r3.f∧r3.f.s0.l.length≤r3.f.cnt∧p.f.cnt≤r3.f.cnt∧r3.f.cnt≤p.f.cnt+1∧p.f.now≤r3.f.now∧r3.f.now≤p.f.now+10∧r3.f.L.length≤p.f.L.length+440) (fun hi7=> ?_) (fun _=>rfl)
 exact cT hK ⟨r3.f⟩ (by dsimp only[cy]<;>(first|(exfalso;omega)|exact hi7|(obtain⟨z1,z2,z3,z4⟩:=iE hi7;exact⟨jg hinv hi7,by omega,by omega,by omega,by omega,by omega,by omega⟩)|(obtain⟨z0,z1,z2,z3,z4,z5⟩:=hi7;exact⟨z0,by omega,by omega,by omega,by omega,by omega,by omega⟩)))
 refine aj (fun r2=> ?_)
 refine iI (p:=dD r2.f∧r2.f.s0.l.length≤r2.f.cnt∧p.f.cnt≤r2.f.cnt∧r2.f.cnt≤p.f.cnt+1∧p.f.now≤r2.f.now∧r2.f.now≤p.f.now+10∧r2.f.L.length≤p.f.L.length+440) (fun hi8=> ?_) (fun _=>rfl)
 exact cT hK ⟨r2.f⟩ (by dsimp only[cy]<;>(first|(exfalso;omega)|exact hi8|(obtain⟨z1,z2,z3,z4⟩:=iE hi8;exact⟨jg hinv hi8,by omega,by omega,by omega,by omega,by omega,by omega⟩)|(obtain⟨z0,z1,z2,z3,z4,z5⟩:=hi8;exact⟨z0,by omega,by omega,by omega,by omega,by omega,by omega⟩)))
 refine iI (fun hc9=> ?_) (fun hc9=> ?_)
 refine aP (⟨p.f,p.s,((p.f.L.length - p.f.a:Nat):Int)⟩:ez) rfl (by(try dsimp only[ek]);exact⟨by assumption,by omega,by omega,by omega,by omega,by omega,by omega,by omega,by omega,by omega⟩) ?_
 refine aG ?_ ?_
 refine aj (fun r5=> ?_)
 refine iI (p:=dD r5.f∧r5.f.s0.l.length≤r5.f.cnt∧p.f.cnt≤r5.f.cnt∧r5.f.cnt≤p.f.cnt+1∧p.f.now≤r5.f.now∧r5.f.now≤p.f.now+10∧r5.f.L.length≤p.f.L.length+440) (fun hi10=> ?_) (fun _=>rfl)
 exact cT hK ⟨r5.f⟩ (by dsimp only[cy]<;>(first|(exfalso;omega)|exact hi10|(obtain⟨z1,z2,z3,z4⟩:=iE hi10;exact⟨jg hinv hi10,by omega,by omega,by omega,by omega,by omega,by omega⟩)|(obtain⟨z0,z1,z2,z3,z4,z5⟩:=hi10;exact⟨z0,by omega,by omega,by omega,by omega,by omega,by omega⟩)))
 refine aj (fun r4=> ?_)
 refine iI (p:=dD r4.f∧r4.f.s0.l.length≤r4.f.cnt∧p.f.cnt≤r4.f.cnt∧r4.f.cnt≤p.f.cnt+1∧p.f.now≤r4.f.now∧r4.f.now≤p.f.now+10∧r4.f.L.length≤p.f.L.length+440) (fun hi11=> ?_) (fun _=>rfl)
 exact cT hK ⟨r4.f⟩ (by dsimp only[cy]<;>(first|(exfalso;omega)|exact hi11|(obtain⟨z1,z2,z3,z4⟩:=iE hi11;exact⟨jg hinv hi11,by omega,by omega,by omega,by omega,by omega,by omega⟩)|(obtain⟨z0,z1,z2,z3,z4,z5⟩:=hi11;exact⟨z0,by omega,by omega,by omega,by omega,by omega,by omega⟩)))
 refine iI (fun hc12=> ?_) (fun hc12=> ?_)
 refine aP (⟨p.f,p.s,((p.f.L.length - p.f.a:Nat):Int)⟩:ez) rfl (by(try dsimp only[ek]);exact⟨by assumption,by omega,by omega,by omega,by omega,by omega,by omega,by omega,by omega,by omega⟩) ?_
 refine aG ?_ ?_
 refine aj (fun r7=> ?_)
 refine iI (p:=dD r7.f∧r7.f.s0.l.length≤r7.f.cnt∧p.f.cnt≤r7.f.cnt∧r7.f.cnt≤p.f.cnt+1∧p.f.now≤r7.f.now∧r7.f.now≤p.f.now+10∧r7.f.L.length≤p.f.L.length+440) (fun hi13=> ?_) (fun _=>rfl)
 exact cT hK ⟨r7.f⟩ (by dsimp only[cy]<;>(first|(exfalso;omega)|exact hi13|(obtain⟨z1,z2,z3,z4⟩:=iE hi13;exact⟨jg hinv hi13,by omega,by omega,by omega,by omega,by omega,by omega⟩)|(obtain⟨z0,z1,z2,z3,z4,z5⟩:=hi13;exact⟨z0,by omega,by omega,by omega,by omega,by omega,by omega⟩)))
 refine aj (fun r6=> ?_)
 refine iI (p:=dD r6.f∧r6.f.s0.l.length≤r6.f.cnt∧p.f.cnt≤r6.f.cnt∧r6.f.cnt≤p.f.cnt+1∧p.f.now≤r6.f.now∧r6.f.now≤p.f.now+10∧r6.f.L.length≤p.f.L.length+440) (fun hi14=> ?_) (fun _=>rfl)
 exact cT hK ⟨r6.f⟩ (by dsimp only[cy]<;>(first|(exfalso;omega)|exact hi14|(obtain⟨z1,z2,z3,z4⟩:=iE hi14;exact⟨jg hinv hi14,by omega,by omega,by omega,by omega,by omega,by omega⟩)|(obtain⟨z0,z1,z2,z3,z4,z5⟩:=hi14;exact⟨z0,by omega,by omega,by omega,by omega,by omega,by omega⟩)))
 refine iI (fun hc15=> ?_) (fun hc15=> ?_)
 refine aP (⟨p.f,p.s,((p.f.L.length - p.f.a:Nat):Int)⟩:ez) rfl (by(try dsimp only[ek]);exact⟨by assumption,by omega,by omega,by omega,by omega,by omega,by omega,by omega,by omega,by omega⟩) ?_
 refine aG ?_ ?_
 refine aj (fun r9=> ?_)
 refine iI (p:=dD r9.f∧r9.f.s0.l.length≤r9.f.cnt∧p.f.cnt≤r9.f.cnt∧r9.f.cnt≤p.f.cnt+1∧p.f.now≤r9.f.now∧r9.f.now≤p.f.now+10∧r9.f.L.length≤p.f.L.length+440) (fun hi16=> ?_) (fun _=>rfl)
 exact cT hK ⟨r9.f⟩ (by dsimp only[cy]<;>(first|(exfalso;omega)|exact hi16|(obtain⟨z1,z2,z3,z4⟩:=iE hi16;exact⟨jg hinv hi16,by omega,by omega,by omega,by omega,by omega,by omega⟩)|(obtain⟨z0,z1,z2,z3,z4,z5⟩:=hi16;exact⟨z0,by omega,by omega,by omega,by omega,by omega,by omega⟩)))
 refine aj (fun r8=> ?_)
 refine iI (p:=dD r8.f∧r8.f.s0.l.length≤r8.f.cnt∧p.f.cnt≤r8.f.cnt∧r8.f.cnt≤p.f.cnt+1∧p.f.now≤r8.f.now∧r8.f.now≤p.f.now+10∧r8.f.L.length≤p.f.L.length+440) (fun hi17=> ?_) (fun _=>rfl)
 exact cT hK ⟨r8.f⟩ (by dsimp only[cy]<;>(first|(exfalso;omega)|exact hi17|(obtain⟨z1,z2,z3,z4⟩:=iE hi17;exact⟨jg hinv hi17,by omega,by omega,by omega,by omega,by omega,by omega⟩)|(obtain⟨z0,z1,z2,z3,z4,z5⟩:=hi17;exact⟨z0,by omega,by omega,by omega,by omega,by omega,by omega⟩)))
 refine iI (fun hc18=> ?_) (fun hc18=> ?_)
 refine aP (⟨p.f,p.s,((p.f.L.length - p.f.a:Nat):Int)⟩:ez) rfl (by(try dsimp only[ek]);exact⟨by assumption,by omega,by omega,by omega,by omega,by omega,by omega,by omega,by omega,by omega⟩) ?_
 refine aG ?_ ?_
 refine aj (fun r11=> ?_)
 refine iI (p:=dD r11.f∧r11.f.s0.l.length≤r11.f.cnt∧p.f.cnt≤r11.f.cnt∧r11.f.cnt≤p.f.cnt+1∧p.f.now≤r11.f.now∧r11.f.now≤p.f.now+10∧r11.f.L.length≤p.f.L.length+440) (fun hi19=> ?_) (fun _=>rfl)
 exact cT hK ⟨r11.f⟩ (by dsimp only[cy]<;>(first|(exfalso;omega)|exact hi19|(obtain⟨z1,z2,z3,z4⟩:=iE hi19;exact⟨jg hinv hi19,by omega,by omega,by omega,by omega,by omega,by omega⟩)|(obtain⟨z0,z1,z2,z3,z4,z5⟩:=hi19;exact⟨z0,by omega,by omega,by omega,by omega,by omega,by omega⟩)))
 refine aj (fun r10=> ?_)
 refine iI (p:=dD r10.f∧r10.f.s0.l.length≤r10.f.cnt∧p.f.cnt≤r10.f.cnt∧r10.f.cnt≤p.f.cnt+1∧p.f.now≤r10.f.now∧r10.f.now≤p.f.now+10∧r10.f.L.length≤p.f.L.length+440) (fun hi20=> ?_) (fun _=>rfl)
 exact cT hK ⟨r10.f⟩ (by dsimp only[cy]<;>(first|(exfalso;omega)|exact hi20|(obtain⟨z1,z2,z3,z4⟩:=iE hi20;exact⟨jg hinv hi20,by omega,by omega,by omega,by omega,by omega,by omega⟩)|(obtain⟨z0,z1,z2,z3,z4,z5⟩:=hi20;exact⟨z0,by omega,by omega,by omega,by omega,by omega,by omega⟩)))
 refine iI (fun hc21=> ?_) (fun hc21=> ?_)
 refine aP (⟨p.f,p.s,((p.f.L.length - p.f.a:Nat):Int)⟩:ez) rfl (by(try dsimp only[ek]);exact⟨by assumption,by omega,by omega,by omega,by omega,by omega,by omega,by omega,by omega,by omega⟩) ?_
 refine aG ?_ ?_
 refine aj (fun r13=> ?_)
 refine iI (p:=dD r13.f∧r13.f.s0.l.length≤r13.f.cnt∧p.f.cnt≤r13.f.cnt∧r13.f.cnt≤p.f.cnt+1∧p.f.now≤r13.f.now∧r13.f.now≤p.f.now+10∧r13.f.L.length≤p.f.L.length+440) (fun hi22=> ?_) (fun _=>rfl)
 exact cT hK ⟨r13.f⟩ (by dsimp only[cy]<;>(first|(exfalso;omega)|exact hi22|(obtain⟨z1,z2,z3,z4⟩:=iE hi22;exact⟨jg hinv hi22,by omega,by omega,by omega,by omega,by omega,by omega⟩)|(obtain⟨z0,z1,z2,z3,z4,z5⟩:=hi22;exact⟨z0,by omega,by omega,by omega,by omega,by omega,by omega⟩)))
 refine aj (fun r12=> ?_)
 refine iI (p:=dD r12.f∧r12.f.s0.l.length≤r12.f.cnt∧p.f.cnt≤r12.f.cnt∧r12.f.cnt≤p.f.cnt+1∧p.f.now≤r12.f.now∧r12.f.now≤p.f.now+10∧r12.f.L.length≤p.f.L.length+440) (fun hi23=> ?_) (fun _=>rfl)
 exact cT hK ⟨r12.f⟩ (by dsimp only[cy]<;>(first|(exfalso;omega)|exact hi23|(obtain⟨z1,z2,z3,z4⟩:=iE hi23;exact⟨jg hinv hi23,by omega,by omega,by omega,by omega,by omega,by omega⟩)|(obtain⟨z0,z1,z2,z3,z4,z5⟩:=hi23;exact⟨z0,by omega,by omega,by omega,by omega,by omega,by omega⟩)))
 refine iI (fun hc24=> ?_) (fun hc24=> ?_)
 refine iI (fun hc25=> ?_) (fun hc25=> ?_)
 refine aQ (mI (by decide) (aQ (mI (by decide) (aQ (aQ (aQ ?_))))))
 refine aB (⟨p.f.s0.l,p.f.s0.com,p.f.c0,p.f.c1,p.f.c2,⟨Int.tmod (p.f.cnt+(1:Int)) (16:Int),(1:Int)+(Int.tdiv (p.f.cnt+(1:Int)) (16:Int))⟩⟩:qX) rfl (by(try dsimp only[rK]);omega) fun r16 hi26=> ?_
 dsimp only[uC]at hi26
 exact cT hK ⟨({p.f with s0:=⟨r16.l,r16.com⟩,c0:=r16.c0,c1:=p.f.c1,c2:=p.f.c2,cnt:=p.f.cnt+(1:Int)}:G3)⟩ (by dsimp only[cy]<;>(first|(exfalso;omega)|(have zl:=congrArg List.length hi26.1;rw[akk]at zl;simp only[List.length_singleton]at zl;exact⟨⟨hI.add_ (by unfold EB;dsimp only;omega) (by omega) hi26 (by simp),a0⟩,by omega,by omega,by omega,by omega,by omega,by omega⟩)))
 refine iI (fun hc27=> ?_) (fun hc27=> ?_)
 refine aQ (mI (by decide) (aQ (mI (by decide) (aQ (aQ (aQ ?_))))))
 refine aP (⟨p.f.s1.l,p.f.s1.com,(0:Int),(0:Int),(0:Int),(1:Int),⟨Int.tmod (p.f.cnt+(1:Int)) (16:Int),(1:Int)+(Int.tdiv (p.f.cnt+(1:Int)) (16:Int))⟩⟩:oE) rfl (by(try dsimp only[kx]);omega) ?_
 refine aj (fun r15=> ?_)
 exact cT hK ⟨({p.f with s1:=⟨p.f.s1.l,p.f.s1.com⟩,cnt:=p.f.cnt+(1:Int)}:G3)⟩ (by dsimp only[cy]<;>(first|(exfalso;omega)|exact⟨hinv,by omega,by omega,by omega,by omega,by omega,by omega⟩))
 refine iI (fun hc28=> ?_) (fun hc28=> ?_)
 refine aQ (mI (by decide) (aQ (mI (by decide) (aQ (aQ (aQ ?_))))))
 refine aP (⟨p.f.s2.l,p.f.s2.com,(0:Int),(0:Int),(0:Int),(2:Int),⟨Int.tmod (p.f.cnt+(1:Int)) (16:Int),(1:Int)+(Int.tdiv (p.f.cnt+(1:Int)) (16:Int))⟩⟩:oE) rfl (by(try dsimp only[kx]);omega) ?_
 refine aj (fun r14=> ?_)
 exact cT hK ⟨({p.f with s2:=⟨p.f.s2.l,p.f.s2.com⟩,cnt:=p.f.cnt+(1:Int)}:G3)⟩ (by dsimp only[cy]<;>(first|(exfalso;omega)|exact⟨hinv,by omega,by omega,by omega,by omega,by omega,by omega⟩))
 refine cZ ?_
 rfl
 refine iI (fun hc29=> ?_) (fun hc29=> ?_)
 exfalso;omega
 refine iI (fun hc30=> ?_) (fun hc30=> ?_)
 exfalso;omega
 refine iI (fun hc31=> ?_) (fun hc31=> ?_)
 exfalso;omega
 refine iI (fun hc32=> ?_) (fun hc32=> ?_)
 exfalso;omega
 refine iI (fun hc33=> ?_) (fun hc33=> ?_)
 refine aB (⟨p.f,Int.tmod ((Int.tmod p.s.x (3:Int))+(3:Int)) (3:Int),(0:Int)⟩:jL) rfl (by(try dsimp only[jm]);exact⟨hinv,by omega,by omega,by omega,by omega,by omega,by omega,by omega,by omega,by omega,by omega⟩) fun r17 hi34=> ?_
 dsimp only[iH]at hi34
 exact cT hK ⟨r17.f⟩ (by dsimp only[cy]<;>(first|(exfalso;omega)|exact hi34|(obtain⟨z1,z2,z3,z4⟩:=iE hi34;exact⟨jg hinv hi34,by omega,by omega,by omega,by omega,by omega,by omega⟩)|(obtain⟨z0,z1,z2,z3,z4,z5⟩:=hi34;exact⟨z0,by omega,by omega,by omega,by omega,by omega,by omega⟩)))
 exact cT hK ⟨p.f⟩ (by dsimp only[cy]<;>(first|(exfalso;omega)|exact⟨hinv,by omega,by omega,by omega,by omega,by omega,by omega⟩))
noncomputable def Ik:aM:=bn (mF 1 3) (be tS (cm kz Cc)) Il
theorem QB:aX Tryz.prog 10 1 Ik:=aD (cS (f:=10) (k:=1) (lp:=kW) (lf:=600) bD (ay kQ) UP (by rfl) (fun b j x h=>(bZ ae8 (fun h=>(bZ ae0 (fun h=>(by cases h)) h)) h)) fun p K h=>aaK p K (ae h).1 (ae h).2) QC
noncomputable def oi:=aZ ol 1 Ik 10 [(0,4),(1,15)]
theorem kP:aE Tryz.prog oi:=az QB kQ
def MB:XC:=tI
def ME:XC:=(.aft (.seq (.seq (g_ 2 [p_ 0 51 (m_ 7),p_ 1 52 (.bin 3 4 (.t 51) (i_ 0))]) (.cond (.t 52) .ret .skip)) (.seq (g_ 9 [p_ 0 53 (f_ 3 3),r_ 1 54 (l_ 53),p_ 2 55 (m_ 7),p_ 3 56 (.bin 0 4 (.t 54) (.t 55)),p_ 4 57 (m_ 7),p_ 5 58 (.bin 0 0 (.t 56) (.t 57)),p_ 6 59 (m_ 7),p_ 7 60 (.bin 0 4 (.t 58) (.t 59)),p_ 8 8 (m_ 60)]) (.seq (g_ 9 [p_ 0 61 (m_ 0),p_ 1 62 (n_ 61),p_ 2 63 (f_ 2 62),r_ 3 64 (l_ 63),p_ 4 65 (m_ 8),p_ 5 66 (.ixs 33 (.t 64) (.t 65)),r_ 6 67 (.ld true 33 (.t 66)),e_ 7 9 (.al 76 [.int 0 (.ofNat 0),.int 0 (.ofNat 0),.int 1 (.ofNat 0),.int 1 (.ofNat 0),.int 1 (.ofNat 0),.int 3 (.ofNat 0),.int 3 (.ofNat 0),.int 3 (.ofNat 0),.int 3 (.ofNat 0),.int 4 (.ofNat 0),.int 4 (.ofNat 0),.int 1 (.ofNat 0),.int 2 (.ofNat 0),.int 3 (.ofNat 0),.int 1 (.ofNat 0),.int 1 (.ofNat 0),.int 1 (.ofNat 0),.int 1 (.ofNat 0),.int 1 (.ofNat 0),.int 1 (.ofNat 0),.int 1 (.ofNat 0),.nilS,.int 1 (.ofNat 0),.str [],.int 1 (.ofNat 0),.int 3 (.ofNat 0),.nilS,.int 1 (.ofNat 0),.int 2 (.ofNat 0),.bool false,.nilS,.nilS,.nilS]),bm 8 (.st 33 (.t 9) (.t 67))]) (.seq (.pre [.can 1 [0,3,8,9]] (.spc 0 MB)) (.seq (g_ 3 [p_ 0 90 (f_ 0 3),r_ 1 91 (l_ 90),p_ 2 92 (.bin 3 5 (.t 91) (i_ 6))]) (.cond (.t 92) (g_ 3 [p_ 0 93 (m_ 0),r_ 1 94 (.ld true 33 (.t 9)),c_ 2 95 29 [.t 93,.t 94]]) .skip)))))) [(0,[.can 1 []]),(1,[.can 1 []])])
def Mx:XC:=(.aft (.seq (.seq (g_ 2 [p_ 0 168 (m_ 10),p_ 1 169 (.bin 3 0 (.t 168) (i_ 10))]) (.cond (.t 169) .skip (.exit 3))) (.seq (.block 4 (.pre [.fix 5 4] (g_ 3 [p_ 0 172 (m_ 0),p_ 1 173 (m_ 5),c_ 2 174 28 [.t 172,.t 173]]))) (g_ 3 [p_ 0 170 (m_ 10),p_ 1 171 (.bin 0 0 (.t 170) (i_ 1)),p_ 2 10 (m_ 171)]))) [(0,[.up 5,.can 1 [0,5,10]]),(3,[.can 1 []])])
def RO:XF:=.mk 175 .none (.seq (g_ 1 [e_ 0 3 (.box 28 (.t 1))]) (.seq (g_ 6 [p_ 0 11 (m_ 0),p_ 1 12 (n_ 11),p_ 2 13 (f_ 0 12),r_ 3 14 (l_ 13),p_ 4 15 (k_ 14),p_ 5 4 (m_ 15)]) (.seq (g_ 9 [p_ 0 16 (f_ 1 3),r_ 1 17 (l_ 16),p_ 2 18 (m_ 4),p_ 3 19 (.bin 0 4 (.t 17) (.t 18)),p_ 4 20 (m_ 4),p_ 5 21 (.bin 0 0 (.t 19) (.t 20)),p_ 6 22 (m_ 4),p_ 7 23 (.bin 0 4 (.t 21) (.t 22)),p_ 8 5 (m_ 23)]) (.seq (g_ 9 [p_ 0 24 (f_ 2 3),r_ 1 25 (l_ 24),p_ 2 26 (m_ 4),p_ 3 27 (.bin 0 4 (.t 25) (.t 26)),p_ 4 28 (m_ 4),p_ 5 29 (.bin 0 0 (.t 27) (.t 28)),p_ 6 30 (m_ 4),p_ 7 31 (.bin 0 4 (.t 29) (.t 30)),p_ 8 6 (m_ 31)]) (.seq (g_ 6 [p_ 0 32 (m_ 0),p_ 1 33 (n_ 32),p_ 2 34 (f_ 2 33),r_ 3 35 (l_ 34),p_ 4 36 (k_ 35),p_ 5 7 (m_ 36)]) (.seq (g_ 2 [p_ 0 37 (f_ 0 3),r_ 1 38 (l_ 37)]) (.block 2 (.seq (g_ 2 [p_ 0 40 (.bin 3 4 (.t 38) (i_ 0)),p_ 1 39 (m_ 40)]) (.cond (.t 39) (.pre [.fix 5 4] (g_ 3 [p_ 0 41 (m_ 0),p_ 1 42 (m_ 5),c_ 2 43 28 [.t 41,.t 42]])) (.seq (.seq (g_ 2 [p_ 0 45 (.bin 3 4 (.t 38) (i_ 1)),p_ 1 44 (m_ 45)]) (.cond (.t 44) .skip (.seq (g_ 2 [p_ 0 46 (.bin 3 4 (.t 38) (i_ 2)),p_ 1 44 (m_ 46)]) (.cond (.t 44) .skip (.seq (g_ 2 [p_ 0 47 (.bin 3 4 (.t 38) (i_ 3)),p_ 1 44 (m_ 47)]) (.cond (.t 44) .skip (.seq (g_ 2 [p_ 0 48 (.bin 3 4 (.t 38) (i_ 4)),p_ 1 44 (m_ 48)]) (.cond (.t 44) .skip (.seq (g_ 2 [p_ 0 49 (.bin 3 4 (.t 38) (i_ 5)),p_ 1 44 (m_ 49)]) (.cond (.t 44) .skip (g_ 2 [p_ 0 50 (.bin 3 4 (.t 38) (i_ 6)),p_ 1 44 (m_ 50)]))))))))))) (.cond (.t 44) (.pre [.can 1 [0,3,7]] (.spc 1 ME)) (.seq (g_ 2 [p_ 0 97 (.bin 3 4 (.t 38) (i_ 7)),p_ 1 96 (m_ 97)]) (.cond (.t 96) (.pre [.fix 5 4] (.seq (g_ 8 [p_ 0 98 (m_ 0),p_ 1 99 (n_ 98),p_ 2 100 (f_ 1 99),r_ 3 101 (l_ 100),p_ 4 102 (m_ 5),p_ 5 103 (.ixs 1 (.t 101) (.t 102)),r_ 6 104 (l_ 103),p_ 7 105 (.un 0 (.t 104))]) (.cond (.t 105) (.seq (g_ 8 [p_ 0 106 (m_ 0),p_ 1 107 (n_ 106),p_ 2 108 (f_ 4 107),r_ 3 109 (l_ 108),p_ 4 110 (.bin 0 0 (.t 109) (i_ 1)),p_ 5 111 (n_ 106),p_ 6 112 (f_ 4 111),bm 7 (.st 1 (.t 112) (.t 110))]) (h_ 13 [p_ 0 113 (m_ 0),p_ 1 114 (n_ 113),p_ 2 115 (f_ 0 114),r_ 3 116 (l_ 115),p_ 4 117 (m_ 5),p_ 5 118 (.ixs 1 (.t 116) (.t 117)),r_ 6 119 (l_ 118),p_ 7 120 (m_ 0),p_ 8 121 (n_ 120),p_ 9 122 (f_ 4 121),r_ 10 123 (l_ 122),c_ 11 124 25 [.t 123],a_ 3 116 (l_ 115),a_ 6 119 (l_ 118),c_ 12 125 24 [.t 119,.t 124]])) .skip))) (.seq (g_ 2 [p_ 0 127 (.bin 3 4 (.t 38) (i_ 8)),p_ 1 126 (m_ 127)]) (.cond (.t 126) (.pre [.die] (h_ 10 [p_ 0 128 (m_ 0),p_ 1 129 (n_ 128),p_ 2 130 (f_ 0 129),r_ 3 131 (l_ 130),p_ 4 132 (m_ 5),p_ 5 133 (.ixs 1 (.t 131) (.t 132)),r_ 6 134 (l_ 133),p_ 7 135 (m_ 6),c_ 8 136 21 [.t 135],a_ 3 131 (l_ 130),a_ 6 134 (l_ 133),c_ 9 137 20 [.t 134,.t 136]])) (.seq (g_ 2 [p_ 0 139 (.bin 3 4 (.t 38) (i_ 9)),p_ 1 138 (m_ 139)]) (.cond (.t 138) (.pre [.die] (g_ 8 [p_ 0 140 (m_ 0),p_ 1 141 (n_ 140),p_ 2 142 (f_ 0 141),r_ 3 143 (l_ 142),p_ 4 144 (m_ 5),p_ 5 145 (.ixs 1 (.t 143) (.t 144)),r_ 6 146 (l_ 145),c_ 7 147 17 [.t 146]])) (.seq (g_ 2 [p_ 0 149 (.bin 3 4 (.t 38) (i_ 10)),p_ 1 148 (m_ 149)]) (.cond (.t 148) (.pre [.die] (g_ 8 [p_ 0 150 (m_ 0),p_ 1 151 (n_ 150),p_ 2 152 (f_ 0 151),r_ 3 153 (l_ 152),p_ 4 154 (m_ 5),p_ 5 155 (.ixs 1 (.t 153) (.t 154)),r_ 6 156 (l_ 155),c_ 7 157 18 [.t 156]])) (.seq (g_ 2 [p_ 0 159 (.bin 3 4 (.t 38) (i_ 11)),p_ 1 158 (m_ 159)]) (.cond (.t 158) (.pre [.die] (g_ 7 [p_ 0 160 (m_ 0),p_ 1 161 (n_ 160),p_ 2 162 (f_ 1 161),r_ 3 163 (l_ 162),p_ 4 164 (m_ 5),p_ 5 165 (.ixs 1 (.t 163) (.t 164)),bm 6 (.st 1 (.t 165) (.c (.bool true)))])) (.seq (g_ 2 [p_ 0 167 (.bin 3 4 (.t 38) (i_ 12)),p_ 1 166 (m_ 167)]) (.cond (.t 166) (.seq (g_ 1 [p_ 0 10 (.mv (i_ 0))]) (.block 3 (.pre [.can 1 [0,5,10],.up 10,.can 1 [0,5,10]] (.inv 2 Mx)))) .skip)))))))))))))))))))))))
theorem UO:aW Tryz.prog 10 RO=true:=by kernel_rfl
structure jK where
 f:G4
 x:Int
 i:Int
structure TV where
 f:G4
def fW (p:jK) (r:TV):Prop:=dy r.f∧r.f.s0.l.length≤r.f.cnt∧r.f.cnt=p.f.cnt∧p.f.now≤r.f.now∧r.f.now≤p.f.now+(10 - p.i)∧(r.f.L.length:Int)≤(p.f.L.length:Int)+3*(10 - p.i)
noncomputable def pI (p:jK):IL:=((.cons 10 (.sy (.int 0 p.i)) (.cons 5 (.sy (.int 0 p.x)) (.cons 0 (.ptr 0 0) .nil))),(bG p.f (p.f.L.length - p.f.a) p.f.s0.l.length p.f.s1.l.length p.f.s2.l.length p.f.s3.l.length),44)
noncomputable def zV (p:jK) (K:KC):Bool:=ah fun r:TV=>iP (fW p r) (K 3 .nil (bG r.f (r.f.L.length - r.f.a) r.f.s0.l.length r.f.s1.l.length r.f.s2.l.length r.f.s3.l.length) 44) true
def ie (p:jK):Prop:=dy p.f∧p.f.s0.l.length≤p.f.cnt∧0≤p.f.cnt∧p.f.cnt≤300∧0≤p.f.now∧p.f.now≤100000+p.i∧(p.f.L.length:Int)≤100000+3*p.i∧0≤p.x∧p.x<4∧0≤p.i∧p.i≤10
theorem acf {p:jK} {K:KC} (hK:zV p K=true) (r:TV) (h:fW p r):K 3 .nil (bG r.f (r.f.L.length - r.f.a) r.f.s0.l.length r.f.s1.l.length r.f.s2.l.length r.f.s3.l.length) 44=true:=aA h (au hK r)
noncomputable def EY (p:jK) (K:KC):Bool:=ac (aF (ie p)) (zV p K)
structure pX where
 f:G4
 s:Sg
 t:Fl
 j:Int
structure TZ where
 L:List Fl
 a:Nat
 o:Nat
 cp:Nat
def lP (p:pX) (r:TZ):Prop:=r.a≤r.L.length∧r.L.length≤p.f.L.length+400∧(r.L.drop r.a).length≤400∧∀x,x∈r.L.drop r.a→x∈p.f.L.drop p.f.a
noncomputable def sL (p:pX):IL:=((.cons 9 (.ptr 2 0) (.cons 8 (.sy (.int 0 p.j)) (.cons 3 (.ptr 1 0) (.cons 0 (.ptr 0 0) .nil)))),(Lj p.f p.s p.t (p.f.L.length - p.f.a) p.f.s0.l.length p.f.s1.l.length p.f.s2.l.length p.f.s3.l.length),46)
noncomputable def Hp (p:pX) (K:KC):Bool:=ah fun r:TZ=>iP (lP p r) (K 0 (.cons 9 (.ptr 2 0) (.cons 3 (.ptr 1 0) (.cons 0 (.ptr 0 0) .nil))) (Lj ({p.f with L:=r.L,a:=r.a,o:=r.o,cp:=r.cp}:G4) p.s p.t (r.L.length - r.a) p.f.s0.l.length p.f.s1.l.length p.f.s2.l.length p.f.s3.l.length) 46) true
def ul (p:pX):Prop:=dy p.f∧0≤p.j∧p.j<((p.f.L.length - p.f.a:Nat):Int)
theorem vp {p:pX} {K:KC} (hK:Hp p K=true) (r:TZ) (h:lP p r):K 0 (.cons 9 (.ptr 2 0) (.cons 3 (.ptr 1 0) (.cons 0 (.ptr 0 0) .nil))) (Lj ({p.f with L:=r.L,a:=r.a,o:=r.o,cp:=r.cp}:G4) p.s p.t (r.L.length - r.a) p.f.s0.l.length p.f.s1.l.length p.f.s2.l.length p.f.s3.l.length) 46=true:=aA h (au hK r)
noncomputable def aen (p:pX) (K:KC):Bool:=ac (aF (ul p)) (Hp p K)
structure ew where
 f:G4
 s:Sg
 kk:Int
structure mK where
 f:G4
structure mp where
 f:G4
def qg (p:ew) (r:mK):Prop:=dy r.f∧r.f.s0.l.length≤r.f.cnt∧p.f.cnt≤r.f.cnt∧r.f.cnt≤p.f.cnt+1∧p.f.now≤r.f.now∧r.f.now≤p.f.now+10∧r.f.L.length≤p.f.L.length+440
def nh (p:ew) (r:mp):Prop:=dy r.f∧r.f.s0.l.length≤r.f.cnt∧p.f.cnt≤r.f.cnt∧r.f.cnt≤p.f.cnt+1∧p.f.now≤r.f.now∧r.f.now≤p.f.now+10∧r.f.L.length≤p.f.L.length+440
noncomputable def iT (p:ew):IL:=((.cons 7 (.sy (.int 0 p.kk)) (.cons 3 (.ptr 1 0) (.cons 0 (.ptr 0 0) .nil))),(Uq p.f p.s (p.f.L.length - p.f.a) p.f.s0.l.length p.f.s1.l.length p.f.s2.l.length p.f.s3.l.length),45)
noncomputable def Qi (p:ew) (K:KC):Bool:=ac (ah fun r:mK=>iP (qg p r) (K 0 .nil (bG r.f (r.f.L.length - r.f.a) r.f.s0.l.length r.f.s1.l.length r.f.s2.l.length r.f.s3.l.length) 44) true) (ah fun r:mp=>iP (nh p r) (K 1 .nil (bG r.f (r.f.L.length - r.f.a) r.f.s0.l.length r.f.s1.l.length r.f.s2.l.length r.f.s3.l.length) 44) true)
def ej (p:ew):Prop:=dy p.f∧p.f.s0.l.length≤p.f.cnt∧0≤p.f.cnt∧p.f.cnt≤300∧0≤p.f.now∧p.f.now≤100000∧p.f.L.length≤100000∧1≤p.s.k∧p.s.k≤6∧p.kk=((p.f.L.length - p.f.a:Nat):Int)
noncomputable def aer (p:ew) (K:KC):Bool:=ac (aF (ej p)) (Qi p K)
noncomputable def kV:gB:=fun j S M nx K=>(Bool.rec ((Bool.rec ((Bool.rec (false) (ax fun p:ew=>ac (aF ((S,M,nx)=iT p)) (aer p K)) (Nat.beq j 1))) (ax fun p:pX=>ac (aF ((S,M,nx)=sL p)) (aen p K)) (Nat.beq j 0))) (ax fun p:jK=>ac (aF ((S,M,nx)=pI p)) (EY p K)) (Nat.beq j 2))
theorem adI (p:pX) (K:KC) (hpre:ul p) (hK:Hp p K=true):(cC (bg oi) kV 600 MB (sL p).1 (sL p).2.1 (sL p).2.2 K)=true:=by
 refine Eq.trans (b:=(iP (¬p.s.k=(5:Int)) (mP (0≤(0:Int)∧(0:Int)≤p.j∧p.j≤((p.f.L.length - p.f.a:Nat):Int)) (mP (aL 0 (p.j+(1:Int))) (mP (0≤(p.j+(1:Int))∧(p.j+(1:Int))≤((p.f.L.length - p.f.a:Nat):Int)∧((p.f.L.length - p.f.a:Nat):Int)≤((p.f.L.length - p.f.a:Nat):Int)) (mP (((.psub 5 33 p.f.a (p.f.L.length - p.f.a) p.f.o (some p.f.cp)):SY)=(.psub 5 33 p.f.a (p.f.L.length - p.f.a) p.f.o (some p.f.cp))) (mP (0≤(0:Int)∧(0:Int)≤p.j∧p.j≤((p.f.L.length - p.f.a:Nat):Int)) (mP (((.psub 5 33 p.f.a p.j.toNat (if p.f.cp=p.f.a then p.f.o else p.f.a*33) (some p.f.cp)):SY)=(.psub 5 33 p.f.a p.j.toNat (if p.f.cp=p.f.a then p.f.o else p.f.a*33) (some p.f.cp))) (mP (((.psub 5 33 p.f.a (p.f.L.length - p.f.a) p.f.o (some p.f.cp)):SY)=(.psub 5 33 p.f.a (p.f.L.length - p.f.a) p.f.o (some p.f.cp))) (mP (0≤(p.j+(1:Int))∧(p.j+(1:Int))≤((p.f.L.length - p.f.a:Nat):Int)∧((p.f.L.length - p.f.a:Nat):Int)≤((p.f.L.length - p.f.a:Nat):Int)) (mP (((.psub 5 33 (p.f.a+((p.j+(1:Int)).toNat)) ((p.f.L.length - p.f.a) - ((p.j+(1:Int)).toNat)) (if p.f.cp=p.f.a then p.f.o else p.f.a*33) (some p.f.cp)):SY)=(.psub 5 33 (p.f.a+((p.j+(1:Int)).toNat)) ((p.f.L.length - p.f.a) - ((p.j+(1:Int)).toNat)) (if p.f.cp=p.f.a then p.f.o else p.f.a*33) (some p.f.cp))) (mP (p.f.a+p.j.toNat≤p.f.L.length) (iP (((p.f.L.drop p.f.a).take p.j.toNat)=[]) (mP (((.psub 5 33 p.f.a (p.f.L.length - p.f.a) p.f.o (some p.f.cp)):SY)=(.psub 5 33 p.f.a (p.f.L.length - p.f.a) p.f.o (some p.f.cp))) (mP (0≤(p.j+(1:Int))∧(p.j+(1:Int))≤((p.f.L.length - p.f.a:Nat):Int)∧((p.f.L.length - p.f.a:Nat):Int)≤((p.f.L.length - p.f.a:Nat):Int)) (mP (((.psub 5 33 (p.f.a+((p.j+(1:Int)).toNat)) ((p.f.L.length - p.f.a) - ((p.j+(1:Int)).toNat)) (if p.f.cp=p.f.a then p.f.o else p.f.a*33) (some p.f.cp)):SY)=(.psub 5 33 (p.f.a+((p.j+(1:Int)).toNat)) ((p.f.L.length - p.f.a) - ((p.j+(1:Int)).toNat)) (if p.f.cp=p.f.a then p.f.o else p.f.a*33) (some p.f.cp))) (mP ((p.f.a+((p.j+(1:Int)).toNat))+((p.f.L.length - p.f.a) - ((p.j+(1:Int)).toNat))≤p.f.L.length) (iP (((p.f.L.drop (p.f.a+((p.j+(1:Int)).toNat))).take ((p.f.L.length - p.f.a) - ((p.j+(1:Int)).toNat)))=[]) (mP ((.sl 46 0 0 (.ex 0):AV)=(.sl 46 0 0 (.ex 0):AV)) (mP (0=([]:List Fl).length) (ah fun u1:Nat=>K 0 (.cons 9 (.ptr 2 0) (.cons 3 (.ptr 1 0) (.cons 0 (.ptr 0 0) .nil))) (Lj ({p.f with L:=([]:List Fl),a:=(0:Nat),o:=(0:Nat),cp:=u1}:G4) p.s p.t 0 p.f.s0.l.length p.f.s1.l.length p.f.s2.l.length p.f.s3.l.length) 46))) (mP (aC 232 ((p.f.L.drop (p.f.a+((p.j+(1:Int)).toNat))).take ((p.f.L.length - p.f.a) - ((p.j+(1:Int)).toNat))).length) (mP ((((p.f.L.drop (p.f.a+((p.j+(1:Int)).toNat))).take ((p.f.L.length - p.f.a) - ((p.j+(1:Int)).toNat))).length)=((p.f.L.drop (p.f.a+((p.j+(1:Int)).toNat))).take ((p.f.L.length - p.f.a) - ((p.j+(1:Int)).toNat))).length) (ah fun u2:Nat=>K 0 (.cons 9 (.ptr 2 0) (.cons 3 (.ptr 1 0) (.cons 0 (.ptr 0 0) .nil))) (Lj ({p.f with L:=(p.f.L.drop (p.f.a+((p.j+(1:Int)).toNat))).take ((p.f.L.length - p.f.a) - ((p.j+(1:Int)).toNat)),a:=(0:Nat),o:=(0:Nat),cp:=u2}:G4) p.s p.t (((p.f.L.drop (p.f.a+((p.j+(1:Int)).toNat))).take ((p.f.L.length - p.f.a) - ((p.j+(1:Int)).toNat))).length) p.f.s0.l.length p.f.s1.l.length p.f.s2.l.length p.f.s3.l.length) 46)))))))) (mP (aC 232 ((p.f.L.drop p.f.a).take p.j.toNat).length) (mP (((.psub 5 33 p.f.a (p.f.L.length - p.f.a) p.f.o (some p.f.cp)):SY)=(.psub 5 33 p.f.a (p.f.L.length - p.f.a) p.f.o (some p.f.cp))) (mP (0≤(p.j+(1:Int))∧(p.j+(1:Int))≤((p.f.L.length - p.f.a:Nat):Int)∧((p.f.L.length - p.f.a:Nat):Int)≤((p.f.L.length - p.f.a:Nat):Int)) (mP (((.psub 5 33 (p.f.a+((p.j+(1:Int)).toNat)) ((p.f.L.length - p.f.a) - ((p.j+(1:Int)).toNat)) (if p.f.cp=p.f.a then p.f.o else p.f.a*33) (some p.f.cp)):SY)=(.psub 5 33 (p.f.a+((p.j+(1:Int)).toNat)) ((p.f.L.length - p.f.a) - ((p.j+(1:Int)).toNat)) (if p.f.cp=p.f.a then p.f.o else p.f.a*33) (some p.f.cp))) (mP ((p.f.a+((p.j+(1:Int)).toNat))+((p.f.L.length - p.f.a) - ((p.j+(1:Int)).toNat))≤p.f.L.length) (mP ((((p.f.L.drop p.f.a).take p.j.toNat).length)=((p.f.L.drop p.f.a).take p.j.toNat).length) (iP (((p.f.L.drop (p.f.a+((p.j+(1:Int)).toNat))).take ((p.f.L.length - p.f.a) - ((p.j+(1:Int)).toNat)))=[]) (mP ((((p.f.L.drop p.f.a).take p.j.toNat).length)=((p.f.L.drop p.f.a).take p.j.toNat).length) (ah fun u4:Nat=>K 0 (.cons 9 (.ptr 2 0) (.cons 3 (.ptr 1 0) (.cons 0 (.ptr 0 0) .nil))) (Lj ({p.f with L:=(p.f.L.drop p.f.a).take p.j.toNat,a:=(0:Nat),o:=(0:Nat),cp:=u4}:G4) p.s p.t (((p.f.L.drop p.f.a).take p.j.toNat).length) p.f.s0.l.length p.f.s1.l.length p.f.s2.l.length p.f.s3.l.length) 46)) (ax fun m1:List Fl=>mP (bz (m1.map cw) (((p.f.L.drop (p.f.a+((p.j+(1:Int)).toNat))).take ((p.f.L.length - p.f.a) - ((p.j+(1:Int)).toNat))).map cw)) (mP (aC 232 (((p.f.L.drop p.f.a).take p.j.toNat).length+m1.length)) (mP (((((p.f.L.drop p.f.a).take p.j.toNat)++m1).length)=(((p.f.L.drop p.f.a).take p.j.toNat)++m1).length) (ah fun u3:Nat=>K 0 (.cons 9 (.ptr 2 0) (.cons 3 (.ptr 1 0) (.cons 0 (.ptr 0 0) .nil))) (Lj ({p.f with L:=((p.f.L.drop p.f.a).take p.j.toNat)++m1,a:=(0:Nat),o:=(0:Nat),cp:=u3}:G4) p.s p.t ((((p.f.L.drop p.f.a).take p.j.toNat)++m1).length) p.f.s0.l.length p.f.s1.l.length p.f.s2.l.length p.f.s3.l.length) 46)))))))))))))))))))))) (K 0 (.cons 9 (.ptr 2 0) (.cons 3 (.ptr 1 0) (.cons 0 (.ptr 0 0) .nil))) (Lj p.f p.s p.t (p.f.L.length - p.f.a) p.f.s0.l.length p.f.s1.l.length p.f.s2.l.length p.f.s3.l.length) 46))) (by kernel_rfl) ?_
 dsimp only[ul]at hpre
 obtain⟨hinv,k1,k2⟩:=hpre
 have hI:FInv p.f.s0 _ _ (p.f.L.drop p.f.a):=hinv.1
 obtain⟨a0,a1,a2,a3,⟨b1,c1,d1,e1,f1⟩,⟨b2,c2,d2,e2,f2⟩,⟨b3,c3,d3,e3,f3⟩⟩:=mU hinv
 have few:=hI.few
 have few2:=few
 rw[akG]at few2
 refine iI (fun hc1=> ?_) (fun hc1=> ?_)
 refine mI (by(first|omega|(simp[aC]<;>omega))) (aQ (mI (by(first|omega|(simp[aC]<;>omega))) (aK (mI (by(first|omega|(simp[aC]<;>omega))) (aK (aK (mI (by(first|omega|(simp[aC]<;>omega))) (aK (mI (by(first|omega|(simp[aC]<;>omega))) ?_)))))))))
 refine iI (fun hc2=> ?_) (fun hc2=> ?_)
 have hc2l:(((p.f.L.drop p.f.a).take p.j.toNat)).length=0:=(by rw[hc2];rfl)
 refine aK (mI (by(first|omega|(simp[aC]<;>omega))) (aK (mI (by(first|omega|(simp[aC]<;>omega))) ?_)))
 refine iI (fun hc3=> ?_) (fun hc3=> ?_)
 have hc3l:(((p.f.L.drop (p.f.a+((p.j+(1:Int)).toNat))).take ((p.f.L.length - p.f.a) - ((p.j+(1:Int)).toNat)))).length=0:=(by rw[hc3];rfl)
 refine aK (aK ?_)
 refine aj (fun u1=> ?_)
 exact vp hK ⟨([]:List Fl),(0:Nat),(0:Nat),u1⟩ (by dsimp only[lP]<;>(refine⟨Nat.zero_le _,?_,?_,fun x hx=> ?_⟩<;>first|(simp only[akk,aky,akG,akn];omega)|exact cj x hx (by omega)|exact List.mem_of_mem_take hx|(exact cj (i:=0) (n:=_) x (by simpa using hx) (by omega))|(simp at hx;done)))
 have hc3l:0<(((p.f.L.drop (p.f.a+((p.j+(1:Int)).toNat))).take ((p.f.L.length - p.f.a) - ((p.j+(1:Int)).toNat)))).length:=List.length_pos_iff.2 hc3
 refine mI (by first|(simp only[aC,akk,aky,akG];omega)|(simp only[aC,akl,akn];omega)|(simp only[akl,akn]at*;unfold aC;omega)) (aK ?_)
 refine aj (fun u2=> ?_)
 exact vp hK ⟨(p.f.L.drop (p.f.a+((p.j+(1:Int)).toNat))).take ((p.f.L.length - p.f.a) - ((p.j+(1:Int)).toNat)),(0:Nat),(0:Nat),u2⟩ (by dsimp only[lP]<;>(refine⟨Nat.zero_le _,?_,?_,fun x hx=> ?_⟩<;>first|(simp only[akk,aky,akG,akn];omega)|exact cj x hx (by omega)|exact List.mem_of_mem_take hx|(exact cj (i:=0) (n:=_) x (by simpa using hx) (by omega))|(simp at hx;done)))
 have hc2l:0<(((p.f.L.drop p.f.a).take p.j.toNat)).length:=List.length_pos_iff.2 hc2
 refine mI (by first|(simp only[aC,akk,aky,akG];omega)|(simp only[aC,akl,akn];omega)|(simp only[akl,akn]at*;unfold aC;omega)) (aK (mI (by(first|omega|(simp[aC]<;>omega))) (aK (mI (by(first|omega|(simp[aC]<;>omega))) (aK ?_)))))
 refine iI (fun hc4=> ?_) (fun hc4=> ?_)
 have hc4l:(((p.f.L.drop (p.f.a+((p.j+(1:Int)).toNat))).take ((p.f.L.length - p.f.a) - ((p.j+(1:Int)).toNat)))).length=0:=(by rw[hc4];rfl)
 refine aK ?_
 refine aj (fun u4=> ?_)
 exact vp hK ⟨(p.f.L.drop p.f.a).take p.j.toNat,(0:Nat),(0:Nat),u4⟩ (by dsimp only[lP]<;>(refine⟨Nat.zero_le _,?_,?_,fun x hx=> ?_⟩<;>first|(simp only[akk,aky,akG,akn];omega)|exact cj x hx (by omega)|exact List.mem_of_mem_take hx|(exact cj (i:=0) (n:=_) x (by simpa using hx) (by omega))|(simp at hx;done)))
 have hc4l:0<(((p.f.L.drop (p.f.a+((p.j+(1:Int)).toNat))).take ((p.f.L.length - p.f.a) - ((p.j+(1:Int)).toNat)))).length:=List.length_pos_iff.2 hc4
 refine aH ((p.f.L.drop (p.f.a+((p.j+(1:Int)).toNat))).take ((p.f.L.length - p.f.a) - ((p.j+(1:Int)).toNat))) ?_
 refine mI (show bz (((p.f.L.drop (p.f.a+((p.j+(1:Int)).toNat))).take ((p.f.L.length - p.f.a) - ((p.j+(1:Int)).toNat))).map cw) (((p.f.L.drop (p.f.a+((p.j+(1:Int)).toNat))).take ((p.f.L.length - p.f.a) - ((p.j+(1:Int)).toNat))).map cw) from cR _) (mI (by(try dsimp only);first|(simp only[aC,akk,aky,akG];omega)|(simp only[aC,akl,akn];omega)|(simp only[akl,akn]at*;unfold aC;omega)) ?_)
 refine aK ?_
 refine aj (fun u3=> ?_)
 exact vp hK ⟨((p.f.L.drop p.f.a).take p.j.toNat)++((p.f.L.drop (p.f.a+((p.j+(1:Int)).toNat))).take ((p.f.L.length - p.f.a) - ((p.j+(1:Int)).toNat))),(0:Nat),(0:Nat),u3⟩ (by dsimp only[lP]<;>(refine⟨Nat.zero_le _,?_,?_,fun x hx=> ?_⟩<;>first|(simp only[akk,aky,akG,akn];omega)|exact cj x hx (by omega)|exact List.mem_of_mem_take hx|(exact cj (i:=0) (n:=_) x (by simpa using hx) (by omega))|(simp at hx;done)))
 exact vp hK ⟨p.f.L,p.f.a,p.f.o,p.f.cp⟩ (by dsimp only[lP]<;>exact⟨a0,by omega,few,fun _ h=>h⟩)
theorem ae3:dp Tryz.prog 175 1 kV false 0 MB:=by
 refine mO (lf:=600) bD (ay kP) (by rfl) (fun b j x h=>by cases h) (fun S M nx K h=> ?_)
 obtain⟨p,h⟩:=bJ h
 obtain⟨e,h9⟩:=ae h
 clear h
 have e1:S=(sL p).1:=congrArg Prod.fst e
 have e2:M=(sL p).2.1:=congrArg (fun x=>x.2.1) e
 have e3:nx=(sL p).2.2:=congrArg (fun x=>x.2.2) e
 subst e1;subst e2;subst e3
 exact adI p K (ae h9).1 (ae h9).2
theorem adM (p:ew) (K:KC) (hpre:ej p) (hK:Qi p K=true):(cC (bg oi) kV 600 ME (iT p).1 (iT p).2.1 (iT p).2.2 K)=true:=by
 refine Eq.trans (b:=(let y0:Int:=(Int.tmod ((Int.tmod p.s.i p.kk)+p.kk) p.kk);iP (p.kk=(0:Int)) (K 1 .nil (bG p.f (p.f.L.length - p.f.a) p.f.s0.l.length p.f.s1.l.length p.f.s2.l.length p.f.s3.l.length) 44) (mP (p.kk≠0) (mP (aL 0 ((Int.tmod p.s.i p.kk)+p.kk)) (mP (p.kk≠0) (mP (0≤y0∧y0<((p.f.L.length - p.f.a:Nat):Int)) (mP ((p.f.a+(y0.toNat))<p.f.L.length) (ah fun x1:Fl=>iP (p.f.L[p.f.a+(y0.toNat)]?=some x1) (bf (((.cons 9 (.ptr 2 0) (.cons 8 (.sy (.int 0 y0)) (.cons 3 (.ptr 1 0) (.cons 0 (.ptr 0 0) .nil)))),(Lj p.f p.s x1 (p.f.L.length - p.f.a) p.f.s0.l.length p.f.s1.l.length p.f.s2.l.length p.f.s3.l.length),46)) sL ul lP fun p1 r1=>iP (¬p1.s.k=(6:Int)) (bf (([.ptr 0 0,.agg [.sy (.int 0 p1.t.fr),.sy (.int 0 p1.t.to),.sy (.int 1 p1.t.k),aa,aa,bt,.sy (.int 3 p1.t.n),.sy (.int 3 p1.t.c),aw,aI,aI,aa,aJ,aw,aa,aa,aa,aa,aa,aa,aa,.nilS,aa,.str [],aa,aw,.nilS,aa,aJ,.bool false,.nilS,.sy (.imm p1.t.h 18 Ke p1.t.l ai),.nilS]],(bG ({p1.f with L:=r1.L,a:=r1.a,o:=r1.o,cp:=r1.cp}:G4) (r1.L.length - r1.a) p1.f.s0.l.length p1.f.s1.l.length p1.f.s2.l.length p1.f.s3.l.length),44)) ub kJ eR fun p2 r2=>K 0 .nil (bG r2.f (r2.f.L.length - r2.f.a) r2.f.s0.l.length r2.f.s1.l.length r2.f.s2.l.length r2.f.s3.l.length) 44) (K 0 .nil (bG ({p1.f with L:=r1.L,a:=r1.a,o:=r1.o,cp:=r1.cp}:G4) (r1.L.length - r1.a) p1.f.s0.l.length p1.f.s1.l.length p1.f.s2.l.length p1.f.s3.l.length) 44)) true)))))))) (by kernel_rfl) ?_
 obtain⟨hK0,hKr0⟩:=aq hK
 have hK1:=hKr0
 dsimp only[ej]at hpre
 obtain⟨hinv,y1,y2,y3,y4,y5,y6,y7,y8,y9⟩:=hpre
 have hI:FInv p.f.s0 _ _ (p.f.L.drop p.f.a):=hinv.1
 obtain⟨a0,a1,a2,a3,⟨b1,c1,d1,e1,f1⟩,⟨b2,c2,d2,e2,f2⟩,⟨b3,c3,d3,e3,f3⟩⟩:=mU hinv
 have t6:=tmk p.kk p.s.i
 have t7:=Xp p.kk p.s.i
 refine iI (fun hc1=> ?_) (fun hc1=> ?_)
 exact aA (show dy p.f∧p.f.s0.l.length≤p.f.cnt∧p.f.cnt≤p.f.cnt∧p.f.cnt≤p.f.cnt+1∧p.f.now≤p.f.now∧p.f.now≤p.f.now+10∧p.f.L.length≤p.f.L.length+440 from(by first|(exfalso;omega)|exact⟨hinv,by omega,by omega,by omega,by omega,by omega,by omega⟩)) (au hK1 (⟨p.f⟩:mp))
 refine cZ (aQ (cZ (gy (cZ ?_))))
 refine aj (fun x1=> ?_)
 refine iI (fun hi2=> ?_) (fun _=>rfl)
 refine aB (⟨p.f,p.s,x1,Int.tmod ((Int.tmod p.s.i p.kk)+p.kk) p.kk⟩:pX) rfl (by(try dsimp only[ul]);exact⟨hinv,by omega,by omega⟩) fun r1 hi3=> ?_
 dsimp only[lP]at hi3
 refine iI (p:=¬p.s.k=(6:Int)) (fun hc4=> ?_) (fun hc4=> ?_)
 refine aB (⟨({p.f with L:=r1.L,a:=r1.a,o:=r1.o,cp:=r1.cp}:G4),x1⟩:oO) rfl (by(try dsimp only[kJ]);first|exact⟨EO hinv hi3,hI.msgs _ (gH (by assumption)),by omega,by omega,by omega⟩|exact⟨EO hinv (Xr (by omega)),hI.msgs _ (gH (by assumption)),by omega,by omega,by omega⟩) fun r2 hi5=> ?_
 dsimp only[eR]at hi5
 exact aA (show dy r2.f∧r2.f.s0.l.length≤r2.f.cnt∧p.f.cnt≤r2.f.cnt∧r2.f.cnt≤p.f.cnt+1∧p.f.now≤r2.f.now∧r2.f.now≤p.f.now+10∧r2.f.L.length≤p.f.L.length+440 from(by obtain⟨z1,z2,z3,z4⟩:=akc hi5;dsimp only at z1 z2 z3 z4;have hm3:=hI.msgs _ (gH (by assumption));refine⟨ajs hi5 (EO (y:=p.f.L.length+400) hinv ?_) hm3,by omega,by omega,by omega,by omega,by omega,by omega⟩;assumption)) (au hK0 (⟨r2.f⟩:mK))
 exact aA (show dy ({p.f with L:=r1.L,a:=r1.a,o:=r1.o,cp:=r1.cp}:G4)∧p.f.s0.l.length≤p.f.cnt∧p.f.cnt≤p.f.cnt∧p.f.cnt≤p.f.cnt+1∧p.f.now≤p.f.now∧p.f.now≤p.f.now+10∧r1.L.length≤p.f.L.length+440 from(by have z4:=hi3.2.1;exact⟨EO hinv hi3,by omega,by omega,by omega,by omega,by omega,by omega⟩)) (au hK0 (⟨({p.f with L:=r1.L,a:=r1.a,o:=r1.o,cp:=r1.cp}:G4)⟩:mK))
theorem ae7:dp Tryz.prog 175 1 kV false 1 ME:=by
 refine mO (lf:=600) bD (ay kP) (by rfl) (fun b j x h=>(bZ ae3 (fun h=>(by cases h)) h)) (fun S M nx K h=> ?_)
 obtain⟨p,h⟩:=bJ h
 obtain⟨e,h9⟩:=ae h
 clear h
 have e1:S=(iT p).1:=congrArg Prod.fst e
 have e2:M=(iT p).2.1:=congrArg (fun x=>x.2.1) e
 have e3:nx=(iT p).2.2:=congrArg (fun x=>x.2.2) e
 subst e1;subst e2;subst e3
 exact adM p K (ae h9).1 (ae h9).2
def eS (p:jK):Nat:=(10 - p.i).toNat
noncomputable def yP (s:IL) (n:Nat) (K:KC):Bool:=ax fun q=>mP (s=pI q∧eS q<n) (EY q K)
theorem Fv {p q:jK} {K:KC} {s:IL} (hm:eS q<eS p) (hp:ie q) (hK:zV q K=true) (e:s=pI q):yP s (eS p) K=true:=aH q (bT ⟨e,hm⟩ (bT hp hK))
theorem adE (p:jK) (K:KC) (hpre:ie p) (hK:zV p K=true):(cC (bg oi) kV 600 Mx (pI p).1 (pI p).2.1 (pI p).2.2 (fun e S M nx=>Nat.casesOn e (ax fun q:jK=>ac (aF ((S,M,nx)=pI q∧eS q<eS p)) (EY q K)) (fun e2=>K (Nat.succ e2) S M nx)))=true:=by
 refine Eq.trans (b:=(iP (p.i<(10:Int)) (iP (p.x=0) (bf (([.ptr 0 0,cE],(bG p.f (p.f.L.length - p.f.a) p.f.s0.l.length p.f.s1.l.length p.f.s2.l.length p.f.s3.l.length),44)) lz eZ eg fun p4 r1=>mP (aL 0 (p.i+(1:Int))) (yP ((.cons 10 (.sy (.int 0 (p.i+(1:Int)))) (.cons 5 (.sy (.int 0 0)) (.cons 0 (.ptr 0 0) .nil))),(bG r1.f (r1.f.L.length - r1.f.a) r1.f.s0.l.length r1.f.s1.l.length r1.f.s2.l.length r1.f.s3.l.length),44) (eS p) K)) (iP (p.x=1) (ax fun p3:fR=>mP (([.ptr 0 0,sS],(bG p.f (p.f.L.length - p.f.a) p.f.s0.l.length p.f.s1.l.length p.f.s2.l.length p.f.s3.l.length),44)=ly p3) (mP (eY p3) (mP (aL 0 (p.i+(1:Int))) (yP ((.cons 10 (.sy (.int 0 (p.i+(1:Int)))) (.cons 5 (.sy (.int 0 1)) (.cons 0 (.ptr 0 0) .nil))),(bG ({p3.f with now:=p3.f.now+1}:G4) (p3.f.L.length - p3.f.a) p3.f.s0.l.length p3.f.s1.l.length p3.f.s2.l.length p3.f.s3.l.length),44) (eS p) K)))) (iP (p.x=2) (ax fun p2:fQ=>mP (([.ptr 0 0,nw],(bG p.f (p.f.L.length - p.f.a) p.f.s0.l.length p.f.s1.l.length p.f.s2.l.length p.f.s3.l.length),44)=lx p2) (mP (eX p2) (mP (aL 0 (p.i+(1:Int))) (yP ((.cons 10 (.sy (.int 0 (p.i+(1:Int)))) (.cons 5 (.sy (.int 0 2)) (.cons 0 (.ptr 0 0) .nil))),(bG ({p2.f with now:=p2.f.now+1}:G4) (p2.f.L.length - p2.f.a) p2.f.s0.l.length p2.f.s1.l.length p2.f.s2.l.length p2.f.s3.l.length),44) (eS p) K)))) (iP (p.x=3) (ax fun p1:fO=>mP (([.ptr 0 0,XM],(bG p.f (p.f.L.length - p.f.a) p.f.s0.l.length p.f.s1.l.length p.f.s2.l.length p.f.s3.l.length),44)=lw p1) (mP (eW p1) (mP (aL 0 (p.i+(1:Int))) (yP ((.cons 10 (.sy (.int 0 (p.i+(1:Int)))) (.cons 5 (.sy (.int 0 3)) (.cons 0 (.ptr 0 0) .nil))),(bG ({p1.f with now:=p1.f.now+1}:G4) (p1.f.L.length - p1.f.a) p1.f.s0.l.length p1.f.s1.l.length p1.f.s2.l.length p1.f.s3.l.length),44) (eS p) K)))) (mP (False) (true)))))) (K 3 .nil (bG p.f (p.f.L.length - p.f.a) p.f.s0.l.length p.f.s1.l.length p.f.s2.l.length p.f.s3.l.length) 44))) (by kernel_rfl) ?_
 dsimp only[ie]at hpre
 obtain⟨hinv,y1,y2,y3,y4,y5,y6,y7,y8,y9,y10⟩:=hpre
 have hI:FInv p.f.s0 _ _ (p.f.L.drop p.f.a):=hinv.1
 obtain⟨a0,a1,a2,a3,⟨b1,c1,d1,e1,f1⟩,⟨b2,c2,d2,e2,f2⟩,⟨b3,c3,d3,e3,f3⟩⟩:=mU hinv
 refine iI (fun hc1=> ?_) (fun hc1=> ?_)
 refine iI (fun hc2=> ?_) (fun hc2=> ?_)
 refine aB (⟨p.f⟩:hU) rfl (by(try dsimp only[eZ]);exact⟨by assumption,by omega,by omega,by omega⟩) fun r1 hi3=> ?_
 dsimp only[eg]at hi3
 refine aQ ?_
 exact Fv (q:=⟨r1.f,(0:Int),p.i+(1:Int)⟩) (by dsimp only[eS];omega) (by dsimp only[ie];obtain⟨z1,z2,z3,z4⟩:=ib hi3;exact⟨iF hinv hi3,by omega,by omega,by omega,by omega,by omega,by omega,by omega,by omega,by omega,by omega⟩) (by refine aj fun r=>iI (fun hz=> ?_) (fun _=>rfl);dsimp only[fW]at hz;obtain⟨z1,z2,z3,z4⟩:=ib hi3;exact aA (show fW p r from⟨hz.1,hz.2.1,by omega,by omega,by omega,by omega⟩) (au hK r)) rfl
 refine iI (fun hc4=> ?_) (fun hc4=> ?_)
 refine aP (⟨p.f⟩:fR) rfl (by(try dsimp only[eY]);exact⟨by assumption,by omega,by omega,by omega⟩) ?_
 refine aQ ?_
 exact Fv (q:=⟨({p.f with now:=p.f.now+1}:G4),(1:Int),p.i+(1:Int)⟩) (by dsimp only[eS];omega) (by dsimp only[ie];first|(exfalso;omega)|exact⟨hinv,by omega,by omega,by omega,by omega,by omega,by omega,by omega,by omega,by omega,by omega⟩) (by refine aj fun r=>iI (fun hz=> ?_) (fun _=>rfl);dsimp only[fW]at hz;exact aA (show fW p r from⟨hz.1,hz.2.1,by omega,by omega,by omega,by omega⟩) (au hK r)) rfl
 refine iI (fun hc5=> ?_) (fun hc5=> ?_)
 refine aP (⟨p.f⟩:fQ) rfl (by(try dsimp only[eX]);exact⟨by assumption,by omega,by omega,by omega⟩) ?_
 refine aQ ?_
 exact Fv (q:=⟨({p.f with now:=p.f.now+1}:G4),(2:Int),p.i+(1:Int)⟩) (by dsimp only[eS];omega) (by dsimp only[ie];first|(exfalso;omega)|exact⟨hinv,by omega,by omega,by omega,by omega,by omega,by omega,by omega,by omega,by omega,by omega⟩) (by refine aj fun r=>iI (fun hz=> ?_) (fun _=>rfl);dsimp only[fW]at hz;exact aA (show fW p r from⟨hz.1,hz.2.1,by omega,by omega,by omega,by omega⟩) (au hK r)) rfl
 refine iI (fun hc6=> ?_) (fun hc6=> ?_)
 refine aP (⟨p.f⟩:fO) rfl (by(try dsimp only[eW]);exact⟨by assumption,by omega,by omega,by omega⟩) ?_
 refine aQ ?_
 exact Fv (q:=⟨({p.f with now:=p.f.now+1}:G4),(3:Int),p.i+(1:Int)⟩) (by dsimp only[eS];omega) (by dsimp only[ie];first|(exfalso;omega)|exact⟨hinv,by omega,by omega,by omega,by omega,by omega,by omega,by omega,by omega,by omega,by omega⟩) (by refine aj fun r=>iI (fun hz=> ?_) (fun _=>rfl);dsimp only[fW]at hz;exact aA (show fW p r from⟨hz.1,hz.2.1,by omega,by omega,by omega,by omega⟩) (au hK r)) rfl
 refine cZ ?_
 rfl
 exact acf hK ⟨p.f⟩ (by dsimp only[fW]<;>exact⟨hinv,by omega,by omega,by omega,by omega,by omega⟩)
theorem aeZ:dp Tryz.prog 175 1 kV true 2 Mx:=by
 exact gD (lf:=600) bD (ay kP) (by rfl) pI eS EY (fun b j x h=>by cases h) (fun S M nx K h=>by obtain⟨p,h⟩:=bJ h;exact⟨p,(ae h).1,(ae h).2⟩) (fun p K h=>adE p K (ae h).1 (ae h).2)
structure oF where
 f:G4
 s:Sg
structure MW where
 f:G4
def ci (p:oF) (r:MW):Prop:=dy r.f∧r.f.s0.l.length≤r.f.cnt∧p.f.cnt≤r.f.cnt∧r.f.cnt≤p.f.cnt+1∧p.f.now≤r.f.now∧r.f.now≤p.f.now+10∧r.f.L.length≤p.f.L.length+440
noncomputable def tR (p:oF):IE:=([.ptr 0 0,.agg [.sy (.int 0 p.s.k),.sy (.int 0 p.s.x),.sy (.int 0 p.s.y),.sy (.int 0 p.s.i)]],(bG p.f (p.f.L.length - p.f.a) p.f.s0.l.length p.f.s1.l.length p.f.s2.l.length p.f.s3.l.length),44)
noncomputable def Cb (p:oF) (K:KE):Bool:=ah fun r:MW=>iP (ci p r) (K (.tup []) (bG r.f (r.f.L.length - r.f.a) r.f.s0.l.length r.f.s1.l.length r.f.s2.l.length r.f.s3.l.length) 44) true
def ky (p:oF):Prop:=dy p.f∧p.f.s0.l.length≤p.f.cnt∧0≤p.f.cnt∧p.f.cnt≤300∧0≤p.f.now∧p.f.now≤100000∧p.f.L.length≤100000∧(p.s.k<8∨p.s.k=12)
theorem cH {p:oF} {K:KE} (hK:Cb p K=true) (r:MW) (h:ci p r):K (.tup []) (bG r.f (r.f.L.length - r.f.a) r.f.s0.l.length r.f.s1.l.length r.f.s2.l.length r.f.s3.l.length) 44=true:=aA h (au hK r)
theorem aaJ (p:oF) (K:KE) (hpre:ky p) (hK:Cb p K=true):(aY 1 (bg oi) kV 600 RO (tR p).1 (tR p).2.1 (tR p).2.2 K)=true:=by
 refine Eq.trans (b:=(let y0:Int:=(Int.tmod ((Int.tmod p.s.x (4:Int))+(4:Int)) (4:Int));let y1:Int:=(Int.tmod (p.f.cnt+(1:Int)) (16:Int));mP ((4:Int)≠0) (mP (aL 0 ((Int.tmod p.s.x (4:Int))+(4:Int))) (mP ((4:Int)≠0) (mP ((4:Int)≠0) (mP (aL 0 ((Int.tmod p.s.y (4:Int))+(4:Int))) (mP ((4:Int)≠0) (iP (p.s.k=(0:Int)) (iP (y0=0) (bf (([.ptr 0 0,cE],(bG p.f (p.f.L.length - p.f.a) p.f.s0.l.length p.f.s1.l.length p.f.s2.l.length p.f.s3.l.length),44)) lz eZ eg fun p4 r1=>K (.tup []) (bG r1.f (r1.f.L.length - r1.f.a) r1.f.s0.l.length r1.f.s1.l.length r1.f.s2.l.length r1.f.s3.l.length) 44) (iP (y0=1) (ax fun p3:fR=>mP (([.ptr 0 0,sS],(bG p.f (p.f.L.length - p.f.a) p.f.s0.l.length p.f.s1.l.length p.f.s2.l.length p.f.s3.l.length),44)=ly p3) (mP (eY p3) (K (.tup []) (bG ({p3.f with now:=p3.f.now+1}:G4) (p3.f.L.length - p3.f.a) p3.f.s0.l.length p3.f.s1.l.length p3.f.s2.l.length p3.f.s3.l.length) 44))) (iP (y0=2) (ax fun p2:fQ=>mP (([.ptr 0 0,nw],(bG p.f (p.f.L.length - p.f.a) p.f.s0.l.length p.f.s1.l.length p.f.s2.l.length p.f.s3.l.length),44)=lx p2) (mP (eX p2) (K (.tup []) (bG ({p2.f with now:=p2.f.now+1}:G4) (p2.f.L.length - p2.f.a) p2.f.s0.l.length p2.f.s1.l.length p2.f.s2.l.length p2.f.s3.l.length) 44))) (iP (y0=3) (ax fun p1:fO=>mP (([.ptr 0 0,XM],(bG p.f (p.f.L.length - p.f.a) p.f.s0.l.length p.f.s1.l.length p.f.s2.l.length p.f.s3.l.length),44)=lw p1) (mP (eW p1) (K (.tup []) (bG ({p1.f with now:=p1.f.now+1}:G4) (p1.f.L.length - p1.f.a) p1.f.s0.l.length p1.f.s1.l.length p1.f.s2.l.length p1.f.s3.l.length) 44))) (mP (False) (true)))))) (iP (p.s.k=(1:Int)) (ax fun p5:ew=>mP (((.cons 7 (.sy (.int 0 ((p.f.L.length - p.f.a:Nat):Int))) (.cons 3 (.ptr 1 0) (.cons 0 (.ptr 0 0) .nil))),(Uq p.f p.s (p.f.L.length - p.f.a) p.f.s0.l.length p.f.s1.l.length p.f.s2.l.length p.f.s3.l.length),45)=iT p5) (mP (ej p5) (ac (ah fun r3:mK=>iP (qg p5 r3) (K (.tup []) (bG r3.f (r3.f.L.length - r3.f.a) r3.f.s0.l.length r3.f.s1.l.length r3.f.s2.l.length r3.f.s3.l.length) 44) true) (ah fun r2:mp=>iP (nh p5 r2) (K (.tup []) (bG r2.f (r2.f.L.length - r2.f.a) r2.f.s0.l.length r2.f.s1.l.length r2.f.s2.l.length r2.f.s3.l.length) 44) true)))) (iP (p.s.k=(2:Int)) (ax fun p6:ew=>mP (((.cons 7 (.sy (.int 0 ((p.f.L.length - p.f.a:Nat):Int))) (.cons 3 (.ptr 1 0) (.cons 0 (.ptr 0 0) .nil))),(Uq p.f p.s (p.f.L.length - p.f.a) p.f.s0.l.length p.f.s1.l.length p.f.s2.l.length p.f.s3.l.length),45)=iT p6) (mP (ej p6) (ac (ah fun r5:mK=>iP (qg p6 r5) (K (.tup []) (bG r5.f (r5.f.L.length - r5.f.a) r5.f.s0.l.length r5.f.s1.l.length r5.f.s2.l.length r5.f.s3.l.length) 44) true) (ah fun r4:mp=>iP (nh p6 r4) (K (.tup []) (bG r4.f (r4.f.L.length - r4.f.a) r4.f.s0.l.length r4.f.s1.l.length r4.f.s2.l.length r4.f.s3.l.length) 44) true)))) (iP (p.s.k=(3:Int)) (ax fun p7:ew=>mP (((.cons 7 (.sy (.int 0 ((p.f.L.length - p.f.a:Nat):Int))) (.cons 3 (.ptr 1 0) (.cons 0 (.ptr 0 0) .nil))),(Uq p.f p.s (p.f.L.length - p.f.a) p.f.s0.l.length p.f.s1.l.length p.f.s2.l.length p.f.s3.l.length),45)=iT p7) (mP (ej p7) (ac (ah fun r7:mK=>iP (qg p7 r7) (K (.tup []) (bG r7.f (r7.f.L.length - r7.f.a) r7.f.s0.l.length r7.f.s1.l.length r7.f.s2.l.length r7.f.s3.l.length) 44) true) (ah fun r6:mp=>iP (nh p7 r6) (K (.tup []) (bG r6.f (r6.f.L.length - r6.f.a) r6.f.s0.l.length r6.f.s1.l.length r6.f.s2.l.length r6.f.s3.l.length) 44) true)))) (iP (p.s.k=(4:Int)) (ax fun p8:ew=>mP (((.cons 7 (.sy (.int 0 ((p.f.L.length - p.f.a:Nat):Int))) (.cons 3 (.ptr 1 0) (.cons 0 (.ptr 0 0) .nil))),(Uq p.f p.s (p.f.L.length - p.f.a) p.f.s0.l.length p.f.s1.l.length p.f.s2.l.length p.f.s3.l.length),45)=iT p8) (mP (ej p8) (ac (ah fun r9:mK=>iP (qg p8 r9) (K (.tup []) (bG r9.f (r9.f.L.length - r9.f.a) r9.f.s0.l.length r9.f.s1.l.length r9.f.s2.l.length r9.f.s3.l.length) 44) true) (ah fun r8:mp=>iP (nh p8 r8) (K (.tup []) (bG r8.f (r8.f.L.length - r8.f.a) r8.f.s0.l.length r8.f.s1.l.length r8.f.s2.l.length r8.f.s3.l.length) 44) true)))) (iP (p.s.k=(5:Int)) (ax fun p9:ew=>mP (((.cons 7 (.sy (.int 0 ((p.f.L.length - p.f.a:Nat):Int))) (.cons 3 (.ptr 1 0) (.cons 0 (.ptr 0 0) .nil))),(Uq p.f p.s (p.f.L.length - p.f.a) p.f.s0.l.length p.f.s1.l.length p.f.s2.l.length p.f.s3.l.length),45)=iT p9) (mP (ej p9) (ac (ah fun r11:mK=>iP (qg p9 r11) (K (.tup []) (bG r11.f (r11.f.L.length - r11.f.a) r11.f.s0.l.length r11.f.s1.l.length r11.f.s2.l.length r11.f.s3.l.length) 44) true) (ah fun r10:mp=>iP (nh p9 r10) (K (.tup []) (bG r10.f (r10.f.L.length - r10.f.a) r10.f.s0.l.length r10.f.s1.l.length r10.f.s2.l.length r10.f.s3.l.length) 44) true)))) (iP (p.s.k=(6:Int)) (ax fun p10:ew=>mP (((.cons 7 (.sy (.int 0 ((p.f.L.length - p.f.a:Nat):Int))) (.cons 3 (.ptr 1 0) (.cons 0 (.ptr 0 0) .nil))),(Uq p.f p.s (p.f.L.length - p.f.a) p.f.s0.l.length p.f.s1.l.length p.f.s2.l.length p.f.s3.l.length),45)=iT p10) (mP (ej p10) (ac (ah fun r13:mK=>iP (qg p10 r13) (K (.tup []) (bG r13.f (r13.f.L.length - r13.f.a) r13.f.s0.l.length r13.f.s1.l.length r13.f.s2.l.length r13.f.s3.l.length) 44) true) (ah fun r12:mp=>iP (nh p10 r12) (K (.tup []) (bG r12.f (r12.f.L.length - r12.f.a) r12.f.s0.l.length r12.f.s1.l.length r12.f.s2.l.length r12.f.s3.l.length) 44) true)))) (iP (p.s.k=(7:Int)) (iP (y0=0) (mP (aL 0 (p.f.cnt+(1:Int))) (mP ((16:Int)≠0) (mP (aL 1 y1) (mP ((16:Int)≠0) (mP (aL 0 (Int.tdiv (p.f.cnt+(1:Int)) (16:Int))) (mP (aL 0 ((1:Int)+(Int.tdiv (p.f.cnt+(1:Int)) (16:Int)))) (mP (aL 2 ((1:Int)+(Int.tdiv (p.f.cnt+(1:Int)) (16:Int)))) (bf (([.ptr 0 0,gK y1 ((1:Int)+(Int.tdiv (p.f.cnt+(1:Int)) (16:Int)))],(dz p.f.s0.l p.f.s0.com p.f.c0 p.f.c1 p.f.c2 p.f.c3),10)) yV rJ uB fun p14 r17=>K (.tup []) (bG ({p.f with s0:=⟨r17.l,r17.com⟩,c0:=r17.c0,c1:=p14.c1,c2:=p14.c2,c3:=p14.c3,cnt:=p.f.cnt+(1:Int)}:G4) (p.f.L.length - p.f.a) r17.l.length p.f.s1.l.length p.f.s2.l.length p.f.s3.l.length) 44)))))))) (iP (y0=1) (mP (aL 0 (p.f.cnt+(1:Int))) (mP ((16:Int)≠0) (mP (aL 1 y1) (mP ((16:Int)≠0) (mP (aL 0 (Int.tdiv (p.f.cnt+(1:Int)) (16:Int))) (mP (aL 0 ((1:Int)+(Int.tdiv (p.f.cnt+(1:Int)) (16:Int)))) (mP (aL 2 ((1:Int)+(Int.tdiv (p.f.cnt+(1:Int)) (16:Int)))) (ax fun p13:jY=>mP (([.ptr 0 0,gK y1 ((1:Int)+(Int.tdiv (p.f.cnt+(1:Int)) (16:Int)))],(cV p.f.s1.l p.f.s1.com 0 0 0 0 1),10)=qH p13) (mP (gP p13) (ah fun r16:qE=>K (.tup []) (zC ({p.f with s1:=⟨p13.l,p13.com⟩,cnt:=p.f.cnt+(1:Int)}:G4) p13.me p13.c0 p13.c1 p13.c2 p13.c3 2 0 0 0 0 3 0 0 0 0 (p.f.L.length - p.f.a) p.f.s0.l.length p13.l.length p.f.s2.l.length p.f.s3.l.length) 44)))))))))) (iP (y0=2) (mP (aL 0 (p.f.cnt+(1:Int))) (mP ((16:Int)≠0) (mP (aL 1 y1) (mP ((16:Int)≠0) (mP (aL 0 (Int.tdiv (p.f.cnt+(1:Int)) (16:Int))) (mP (aL 0 ((1:Int)+(Int.tdiv (p.f.cnt+(1:Int)) (16:Int)))) (mP (aL 2 ((1:Int)+(Int.tdiv (p.f.cnt+(1:Int)) (16:Int)))) (ax fun p12:jY=>mP (([.ptr 0 0,gK y1 ((1:Int)+(Int.tdiv (p.f.cnt+(1:Int)) (16:Int)))],(cV p.f.s2.l p.f.s2.com 0 0 0 0 2),10)=qH p12) (mP (gP p12) (ah fun r15:qE=>K (.tup []) (zC ({p.f with s2:=⟨p12.l,p12.com⟩,cnt:=p.f.cnt+(1:Int)}:G4) 1 0 0 0 0 p12.me p12.c0 p12.c1 p12.c2 p12.c3 3 0 0 0 0 (p.f.L.length - p.f.a) p.f.s0.l.length p.f.s1.l.length p12.l.length p.f.s3.l.length) 44)))))))))) (iP (y0=3) (mP (aL 0 (p.f.cnt+(1:Int))) (mP ((16:Int)≠0) (mP (aL 1 y1) (mP ((16:Int)≠0) (mP (aL 0 (Int.tdiv (p.f.cnt+(1:Int)) (16:Int))) (mP (aL 0 ((1:Int)+(Int.tdiv (p.f.cnt+(1:Int)) (16:Int)))) (mP (aL 2 ((1:Int)+(Int.tdiv (p.f.cnt+(1:Int)) (16:Int)))) (ax fun p11:jY=>mP (([.ptr 0 0,gK y1 ((1:Int)+(Int.tdiv (p.f.cnt+(1:Int)) (16:Int)))],(cV p.f.s3.l p.f.s3.com 0 0 0 0 3),10)=qH p11) (mP (gP p11) (ah fun r14:qE=>K (.tup []) (zC ({p.f with s3:=⟨p11.l,p11.com⟩,cnt:=p.f.cnt+(1:Int)}:G4) 1 0 0 0 0 2 0 0 0 0 p11.me p11.c0 p11.c1 p11.c2 p11.c3 (p.f.L.length - p.f.a) p.f.s0.l.length p.f.s1.l.length p.f.s2.l.length p11.l.length) 44)))))))))) (mP (False) (true)))))) (iP (p.s.k=(8:Int)) (false) (iP (p.s.k=(9:Int)) (false) (iP (p.s.k=(10:Int)) (false) (iP (p.s.k=(11:Int)) (false) (iP (p.s.k=(12:Int)) (bf (((.cons 10 (.sy (.int 0 0)) (.cons 5 (.sy (.int 0 y0)) (.cons 0 (.ptr 0 0) .nil))),(bG p.f (p.f.L.length - p.f.a) p.f.s0.l.length p.f.s1.l.length p.f.s2.l.length p.f.s3.l.length),44)) pI ie fW fun p15 r18=>K (.tup []) (bG r18.f (r18.f.L.length - r18.f.a) r18.f.s0.l.length r18.f.s1.l.length r18.f.s2.l.length r18.f.s3.l.length) 44) (K (.tup []) (bG p.f (p.f.L.length - p.f.a) p.f.s0.l.length p.f.s1.l.length p.f.s2.l.length p.f.s3.l.length) 44))))))))))))))))))))) (by kernel_rfl) ?_
 dsimp only[ky]at hpre
 obtain⟨hinv,y1,y2,y3,y4,y5,y6,y7⟩:=hpre
 have hI:FInv p.f.s0 _ _ (p.f.L.drop p.f.a):=hinv.1
 obtain⟨a0,a1,a2,a3,⟨b1,c1,d1,e1,f1⟩,⟨b2,c2,d2,e2,f2⟩,⟨b3,c3,d3,e3,f3⟩⟩:=mU hinv
 have t1:=BJ 4 (by decide) p.s.x
 have t2:=tmp 4 (by decide) (p.s.x.tmod 4+4) (by omega)
 have t3:=BJ 4 (by decide) p.s.y
 have t4:=tmp 4 (by decide) (p.s.y.tmod 4+4) (by omega)
 have t5:=tmp 16 (by decide) (p.f.cnt+1) (by omega)
 have t6:=tdp (p.f.cnt+1) (by omega)
 refine mI (by decide) (aQ (mI (by decide) (mI (by decide) (aQ (mI (by decide) ?_)))))
 refine iI (fun hc1=> ?_) (fun hc1=> ?_)
 refine iI (fun hc2=> ?_) (fun hc2=> ?_)
 refine aB (⟨p.f⟩:hU) rfl (by(try dsimp only[eZ]);exact⟨by assumption,by omega,by omega,by omega⟩) fun r1 hi3=> ?_
 dsimp only[eg]at hi3
 exact cH hK ⟨r1.f⟩ (by dsimp only[ci]<;>(first|(exfalso;omega)|exact hi3|(obtain⟨z1,z2,z3,z4⟩:=ib hi3;exact⟨iF hinv hi3,by omega,by omega,by omega,by omega,by omega,by omega⟩)|(obtain⟨z0,z1,z2,z3,z4,z5⟩:=hi3;exact⟨z0,by omega,by omega,by omega,by omega,by omega,by omega⟩)))
 refine iI (fun hc4=> ?_) (fun hc4=> ?_)
 refine aP (⟨p.f⟩:fR) rfl (by(try dsimp only[eY]);exact⟨by assumption,by omega,by omega,by omega⟩) ?_
 exact cH hK ⟨({p.f with now:=p.f.now+1}:G4)⟩ (by dsimp only[ci]<;>(first|(exfalso;omega)|exact⟨hinv,by omega,by omega,by omega,by omega,by omega,by omega⟩))
 refine iI (fun hc5=> ?_) (fun hc5=> ?_)
 refine aP (⟨p.f⟩:fQ) rfl (by(try dsimp only[eX]);exact⟨by assumption,by omega,by omega,by omega⟩) ?_
 exact cH hK ⟨({p.f with now:=p.f.now+1}:G4)⟩ (by dsimp only[ci]<;>(first|(exfalso;omega)|exact⟨hinv,by omega,by omega,by omega,by omega,by omega,by omega⟩))
 refine iI (fun hc6=> ?_) (fun hc6=> ?_)
 refine aP (⟨p.f⟩:fO) rfl (by(try dsimp only[eW]);exact⟨by assumption,by omega,by omega,by omega⟩) ?_
 exact cH hK ⟨({p.f with now:=p.f.now+1}:G4)⟩ (by dsimp only[ci]<;>(first|(exfalso;omega)|exact⟨hinv,by omega,by omega,by omega,by omega,by omega,by omega⟩))
 refine cZ ?_
 rfl
 refine iI (fun hc7=> ?_) (fun hc7=> ?_)
 refine aP (⟨p.f,p.s,((p.f.L.length - p.f.a:Nat):Int)⟩:ew) rfl (by(try dsimp only[ej]);exact⟨by assumption,by omega,by omega,by omega,by omega,by omega,by omega,by omega,by omega,by omega⟩) ?_
 refine aG ?_ ?_
 refine aj (fun r3=> ?_)
 refine iI (p:=dy r3.f∧r3.f.s0.l.length≤r3.f.cnt∧p.f.cnt≤r3.f.cnt∧r3.f.cnt≤p.f.cnt+1∧p.f.now≤r3.f.now∧r3.f.now≤p.f.now+10∧r3.f.L.length≤p.f.L.length+440) (fun hi8=> ?_) (fun _=>rfl)
 exact cH hK ⟨r3.f⟩ (by dsimp only[ci]<;>(first|(exfalso;omega)|exact hi8|(obtain⟨z1,z2,z3,z4⟩:=ib hi8;exact⟨iF hinv hi8,by omega,by omega,by omega,by omega,by omega,by omega⟩)|(obtain⟨z0,z1,z2,z3,z4,z5⟩:=hi8;exact⟨z0,by omega,by omega,by omega,by omega,by omega,by omega⟩)))
 refine aj (fun r2=> ?_)
 refine iI (p:=dy r2.f∧r2.f.s0.l.length≤r2.f.cnt∧p.f.cnt≤r2.f.cnt∧r2.f.cnt≤p.f.cnt+1∧p.f.now≤r2.f.now∧r2.f.now≤p.f.now+10∧r2.f.L.length≤p.f.L.length+440) (fun hi9=> ?_) (fun _=>rfl)
 exact cH hK ⟨r2.f⟩ (by dsimp only[ci]<;>(first|(exfalso;omega)|exact hi9|(obtain⟨z1,z2,z3,z4⟩:=ib hi9;exact⟨iF hinv hi9,by omega,by omega,by omega,by omega,by omega,by omega⟩)|(obtain⟨z0,z1,z2,z3,z4,z5⟩:=hi9;exact⟨z0,by omega,by omega,by omega,by omega,by omega,by omega⟩)))
 refine iI (fun hc10=> ?_) (fun hc10=> ?_)
 refine aP (⟨p.f,p.s,((p.f.L.length - p.f.a:Nat):Int)⟩:ew) rfl (by(try dsimp only[ej]);exact⟨by assumption,by omega,by omega,by omega,by omega,by omega,by omega,by omega,by omega,by omega⟩) ?_
 refine aG ?_ ?_
 refine aj (fun r5=> ?_)
 refine iI (p:=dy r5.f∧r5.f.s0.l.length≤r5.f.cnt∧p.f.cnt≤r5.f.cnt∧r5.f.cnt≤p.f.cnt+1∧p.f.now≤r5.f.now∧r5.f.now≤p.f.now+10∧r5.f.L.length≤p.f.L.length+440) (fun hi11=> ?_) (fun _=>rfl)
 exact cH hK ⟨r5.f⟩ (by dsimp only[ci]<;>(first|(exfalso;omega)|exact hi11|(obtain⟨z1,z2,z3,z4⟩:=ib hi11;exact⟨iF hinv hi11,by omega,by omega,by omega,by omega,by omega,by omega⟩)|(obtain⟨z0,z1,z2,z3,z4,z5⟩:=hi11;exact⟨z0,by omega,by omega,by omega,by omega,by omega,by omega⟩)))
 refine aj (fun r4=> ?_)
 refine iI (p:=dy r4.f∧r4.f.s0.l.length≤r4.f.cnt∧p.f.cnt≤r4.f.cnt∧r4.f.cnt≤p.f.cnt+1∧p.f.now≤r4.f.now∧r4.f.now≤p.f.now+10∧r4.f.L.length≤p.f.L.length+440) (fun hi12=> ?_) (fun _=>rfl)
 exact cH hK ⟨r4.f⟩ (by dsimp only[ci]<;>(first|(exfalso;omega)|exact hi12|(obtain⟨z1,z2,z3,z4⟩:=ib hi12;exact⟨iF hinv hi12,by omega,by omega,by omega,by omega,by omega,by omega⟩)|(obtain⟨z0,z1,z2,z3,z4,z5⟩:=hi12;exact⟨z0,by omega,by omega,by omega,by omega,by omega,by omega⟩)))
 refine iI (fun hc13=> ?_) (fun hc13=> ?_)
 refine aP (⟨p.f,p.s,((p.f.L.length - p.f.a:Nat):Int)⟩:ew) rfl (by(try dsimp only[ej]);exact⟨by assumption,by omega,by omega,by omega,by omega,by omega,by omega,by omega,by omega,by omega⟩) ?_
 refine aG ?_ ?_
 refine aj (fun r7=> ?_)
 refine iI (p:=dy r7.f∧r7.f.s0.l.length≤r7.f.cnt∧p.f.cnt≤r7.f.cnt∧r7.f.cnt≤p.f.cnt+1∧p.f.now≤r7.f.now∧r7.f.now≤p.f.now+10∧r7.f.L.length≤p.f.L.length+440) (fun hi14=> ?_) (fun _=>rfl)
 exact cH hK ⟨r7.f⟩ (by dsimp only[ci]<;>(first|(exfalso;omega)|exact hi14|(obtain⟨z1,z2,z3,z4⟩:=ib hi14;exact⟨iF hinv hi14,by omega,by omega,by omega,by omega,by omega,by omega⟩)|(obtain⟨z0,z1,z2,z3,z4,z5⟩:=hi14;exact⟨z0,by omega,by omega,by omega,by omega,by omega,by omega⟩)))
 refine aj (fun r6=> ?_)
 refine iI (p:=dy r6.f∧r6.f.s0.l.length≤r6.f.cnt∧p.f.cnt≤r6.f.cnt∧r6.f.cnt≤p.f.cnt+1∧p.f.now≤r6.f.now∧r6.f.now≤p.f.now+10∧r6.f.L.length≤p.f.L.length+440) (fun hi15=> ?_) (fun _=>rfl)
 exact cH hK ⟨r6.f⟩ (by dsimp only[ci]<;>(first|(exfalso;omega)|exact hi15|(obtain⟨z1,z2,z3,z4⟩:=ib hi15;exact⟨iF hinv hi15,by omega,by omega,by omega,by omega,by omega,by omega⟩)|(obtain⟨z0,z1,z2,z3,z4,z5⟩:=hi15;exact⟨z0,by omega,by omega,by omega,by omega,by omega,by omega⟩)))
 refine iI (fun hc16=> ?_) (fun hc16=> ?_)
 refine aP (⟨p.f,p.s,((p.f.L.length - p.f.a:Nat):Int)⟩:ew) rfl (by(try dsimp only[ej]);exact⟨by assumption,by omega,by omega,by omega,by omega,by omega,by omega,by omega,by omega,by omega⟩) ?_
 refine aG ?_ ?_
 refine aj (fun r9=> ?_)
 refine iI (p:=dy r9.f∧r9.f.s0.l.length≤r9.f.cnt∧p.f.cnt≤r9.f.cnt∧r9.f.cnt≤p.f.cnt+1∧p.f.now≤r9.f.now∧r9.f.now≤p.f.now+10∧r9.f.L.length≤p.f.L.length+440) (fun hi17=> ?_) (fun _=>rfl)
 exact cH hK ⟨r9.f⟩ (by dsimp only[ci]<;>(first|(exfalso;omega)|exact hi17|(obtain⟨z1,z2,z3,z4⟩:=ib hi17;exact⟨iF hinv hi17,by omega,by omega,by omega,by omega,by omega,by omega⟩)|(obtain⟨z0,z1,z2,z3,z4,z5⟩:=hi17;exact⟨z0,by omega,by omega,by omega,by omega,by omega,by omega⟩)))
 refine aj (fun r8=> ?_)
 refine iI (p:=dy r8.f∧r8.f.s0.l.length≤r8.f.cnt∧p.f.cnt≤r8.f.cnt∧r8.f.cnt≤p.f.cnt+1∧p.f.now≤r8.f.now∧r8.f.now≤p.f.now+10∧r8.f.L.length≤p.f.L.length+440) (fun hi18=> ?_) (fun _=>rfl)
 exact cH hK ⟨r8.f⟩ (by dsimp only[ci]<;>(first|(exfalso;omega)|exact hi18|(obtain⟨z1,z2,z3,z4⟩:=ib hi18;exact⟨iF hinv hi18,by omega,by omega,by omega,by omega,by omega,by omega⟩)|(obtain⟨z0,z1,z2,z3,z4,z5⟩:=hi18;exact⟨z0,by omega,by omega,by omega,by omega,by omega,by omega⟩)))
 refine iI (fun hc19=> ?_) (fun hc19=> ?_)
 refine aP (⟨p.f,p.s,((p.f.L.length - p.f.a:Nat):Int)⟩:ew) rfl (by(try dsimp only[ej]);exact⟨by assumption,by omega,by omega,by omega,by omega,by omega,by omega,by omega,by omega,by omega⟩) ?_
 refine aG ?_ ?_
 refine aj (fun r11=> ?_)
 refine iI (p:=dy r11.f∧r11.f.s0.l.length≤r11.f.cnt∧p.f.cnt≤r11.f.cnt∧r11.f.cnt≤p.f.cnt+1∧p.f.now≤r11.f.now∧r11.f.now≤p.f.now+10∧r11.f.L.length≤p.f.L.length+440) (fun hi20=> ?_) (fun _=>rfl)
 exact cH hK ⟨r11.f⟩ (by dsimp only[ci]<;>(first|(exfalso;omega)|exact hi20|(obtain⟨z1,z2,z3,z4⟩:=ib hi20;exact⟨iF hinv hi20,by omega,by omega,by omega,by omega,by omega,by omega⟩)|(obtain⟨z0,z1,z2,z3,z4,z5⟩:=hi20;exact⟨z0,by omega,by omega,by omega,by omega,by omega,by omega⟩)))
 refine aj (fun r10=> ?_)
 refine iI (p:=dy r10.f∧r10.f.s0.l.length≤r10.f.cnt∧p.f.cnt≤r10.f.cnt∧r10.f.cnt≤p.f.cnt+1∧p.f.now≤r10.f.now∧r10.f.now≤p.f.now+10∧r10.f.L.length≤p.f.L.length+440) (fun hi21=> ?_) (fun _=>rfl)
 exact cH hK ⟨r10.f⟩ (by dsimp only[ci]<;>(first|(exfalso;omega)|exact hi21|(obtain⟨z1,z2,z3,z4⟩:=ib hi21;exact⟨iF hinv hi21,by omega,by omega,by omega,by omega,by omega,by omega⟩)|(obtain⟨z0,z1,z2,z3,z4,z5⟩:=hi21;exact⟨z0,by omega,by omega,by omega,by omega,by omega,by omega⟩)))
 refine iI (fun hc22=> ?_) (fun hc22=> ?_)
 refine aP (⟨p.f,p.s,((p.f.L.length - p.f.a:Nat):Int)⟩:ew) rfl (by(try dsimp only[ej]);exact⟨by assumption,by omega,by omega,by omega,by omega,by omega,by omega,by omega,by omega,by omega⟩) ?_
 refine aG ?_ ?_
 refine aj (fun r13=> ?_)
 refine iI (p:=dy r13.f∧r13.f.s0.l.length≤r13.f.cnt∧p.f.cnt≤r13.f.cnt∧r13.f.cnt≤p.f.cnt+1∧p.f.now≤r13.f.now∧r13.f.now≤p.f.now+10∧r13.f.L.length≤p.f.L.length+440) (fun hi23=> ?_) (fun _=>rfl)
 exact cH hK ⟨r13.f⟩ (by dsimp only[ci]<;>(first|(exfalso;omega)|exact hi23|(obtain⟨z1,z2,z3,z4⟩:=ib hi23;exact⟨iF hinv hi23,by omega,by omega,by omega,by omega,by omega,by omega⟩)|(obtain⟨z0,z1,z2,z3,z4,z5⟩:=hi23;exact⟨z0,by omega,by omega,by omega,by omega,by omega,by omega⟩)))
 refine aj (fun r12=> ?_)
 refine iI (p:=dy r12.f∧r12.f.s0.l.length≤r12.f.cnt∧p.f.cnt≤r12.f.cnt∧r12.f.cnt≤p.f.cnt+1∧p.f.now≤r12.f.now∧r12.f.now≤p.f.now+10∧r12.f.L.length≤p.f.L.length+440) (fun hi24=> ?_) (fun _=>rfl)
 exact cH hK ⟨r12.f⟩ (by dsimp only[ci]<;>(first|(exfalso;omega)|exact hi24|(obtain⟨z1,z2,z3,z4⟩:=ib hi24;exact⟨iF hinv hi24,by omega,by omega,by omega,by omega,by omega,by omega⟩)|(obtain⟨z0,z1,z2,z3,z4,z5⟩:=hi24;exact⟨z0,by omega,by omega,by omega,by omega,by omega,by omega⟩)))
 refine iI (fun hc25=> ?_) (fun hc25=> ?_)
 refine iI (fun hc26=> ?_) (fun hc26=> ?_)
 refine aQ (mI (by decide) (aQ (mI (by decide) (aQ (aQ (aQ ?_))))))
 refine aB (⟨p.f.s0.l,p.f.s0.com,p.f.c0,p.f.c1,p.f.c2,p.f.c3,⟨Int.tmod (p.f.cnt+(1:Int)) (16:Int),(1:Int)+(Int.tdiv (p.f.cnt+(1:Int)) (16:Int))⟩⟩:qW) rfl (by(try dsimp only[rJ]);omega) fun r17 hi27=> ?_
 dsimp only[uB]at hi27
 exact cH hK ⟨({p.f with s0:=⟨r17.l,r17.com⟩,c0:=r17.c0,c1:=p.f.c1,c2:=p.f.c2,c3:=p.f.c3,cnt:=p.f.cnt+(1:Int)}:G4)⟩ (by dsimp only[ci]<;>(first|(exfalso;omega)|(have zl:=congrArg List.length hi27.1;rw[akk]at zl;simp only[List.length_singleton]at zl;exact⟨⟨hI.add_ (by unfold EB;dsimp only;omega) (by omega) hi27 (by simp),a0⟩,by omega,by omega,by omega,by omega,by omega,by omega⟩)))
 refine iI (fun hc28=> ?_) (fun hc28=> ?_)
 refine aQ (mI (by decide) (aQ (mI (by decide) (aQ (aQ (aQ ?_))))))
 refine aP (⟨p.f.s1.l,p.f.s1.com,(0:Int),(0:Int),(0:Int),(0:Int),(1:Int),⟨Int.tmod (p.f.cnt+(1:Int)) (16:Int),(1:Int)+(Int.tdiv (p.f.cnt+(1:Int)) (16:Int))⟩⟩:jY) rfl (by(try dsimp only[gP]);omega) ?_
 refine aj (fun r16=> ?_)
 exact cH hK ⟨({p.f with s1:=⟨p.f.s1.l,p.f.s1.com⟩,cnt:=p.f.cnt+(1:Int)}:G4)⟩ (by dsimp only[ci]<;>(first|(exfalso;omega)|exact⟨hinv,by omega,by omega,by omega,by omega,by omega,by omega⟩))
 refine iI (fun hc29=> ?_) (fun hc29=> ?_)
 refine aQ (mI (by decide) (aQ (mI (by decide) (aQ (aQ (aQ ?_))))))
 refine aP (⟨p.f.s2.l,p.f.s2.com,(0:Int),(0:Int),(0:Int),(0:Int),(2:Int),⟨Int.tmod (p.f.cnt+(1:Int)) (16:Int),(1:Int)+(Int.tdiv (p.f.cnt+(1:Int)) (16:Int))⟩⟩:jY) rfl (by(try dsimp only[gP]);omega) ?_
 refine aj (fun r15=> ?_)
 exact cH hK ⟨({p.f with s2:=⟨p.f.s2.l,p.f.s2.com⟩,cnt:=p.f.cnt+(1:Int)}:G4)⟩ (by dsimp only[ci]<;>(first|(exfalso;omega)|exact⟨hinv,by omega,by omega,by omega,by omega,by omega,by omega⟩))
 refine iI (fun hc30=> ?_) (fun hc30=> ?_)
 refine aQ (mI (by decide) (aQ (mI (by decide) (aQ (aQ (aQ ?_))))))
 refine aP (⟨p.f.s3.l,p.f.s3.com,(0:Int),(0:Int),(0:Int),(0:Int),(3:Int),⟨Int.tmod (p.f.cnt+(1:Int)) (16:Int),(1:Int)+(Int.tdiv (p.f.cnt+(1:Int)) (16:Int))⟩⟩:jY) rfl (by(try dsimp only[gP]);omega) ?_
 refine aj (fun r14=> ?_)
 exact cH hK ⟨({p.f with s3:=⟨p.f.s3.l,p.f.s3.com⟩,cnt:=p.f.cnt+(1:Int)}:G4)⟩ (by dsimp only[ci]<;>(first|(exfalso;omega)|exact⟨hinv,by omega,by omega,by omega,by omega,by omega,by omega⟩))
 refine cZ ?_
 rfl
 refine iI (fun hc31=> ?_) (fun hc31=> ?_)
 exfalso;omega
 refine iI (fun hc32=> ?_) (fun hc32=> ?_)
 exfalso;omega
 refine iI (fun hc33=> ?_) (fun hc33=> ?_)
 exfalso;omega
 refine iI (fun hc34=> ?_) (fun hc34=> ?_)
 exfalso;omega
 refine iI (fun hc35=> ?_) (fun hc35=> ?_)
 refine aB (⟨p.f,Int.tmod ((Int.tmod p.s.x (4:Int))+(4:Int)) (4:Int),(0:Int)⟩:jK) rfl (by(try dsimp only[ie]);exact⟨hinv,by omega,by omega,by omega,by omega,by omega,by omega,by omega,by omega,by omega,by omega⟩) fun r18 hi36=> ?_
 dsimp only[fW]at hi36
 exact cH hK ⟨r18.f⟩ (by dsimp only[ci]<;>(first|(exfalso;omega)|exact hi36|(obtain⟨z1,z2,z3,z4⟩:=ib hi36;exact⟨iF hinv hi36,by omega,by omega,by omega,by omega,by omega,by omega⟩)|(obtain⟨z0,z1,z2,z3,z4,z5⟩:=hi36;exact⟨z0,by omega,by omega,by omega,by omega,by omega,by omega⟩)))
 exact cH hK ⟨p.f⟩ (by dsimp only[ci]<;>(first|(exfalso;omega)|exact⟨hinv,by omega,by omega,by omega,by omega,by omega,by omega⟩))
noncomputable def Te:aM:=bn (mF 1 4) (be tR (cm ky Cb)) Ik
theorem abL:aX Tryz.prog 10 1 Te:=aD (cS (f:=10) (k:=1) (lp:=kV) (lf:=600) bD (ay kP) UO (by rfl) (fun b j x h=>(bZ ae7 (fun h=>(bZ aeZ (fun h=>(by cases h)) h)) h)) fun p K h=>aaJ p K (ae h).1 (ae h).2) QB
noncomputable def Da:=aZ oi 1 Te 10 [(0,4),(1,15)]
theorem CZ:aE Tryz.prog Da:=az abL kP
end Go.Proofs.Tryz
namespace Go.Proofs.Tryz
open Go Go.RowKit Go.Sy
open Go.Eng hiding ah
set_option linter.unusedVariables false
def gF:List Fl→Nat
 |[]=>0
 |x::r=>(if x.k=3 then 2 else 1)+gF r
theorem VA:∀(a b:List Fl),gF (a++b)=gF a+gF b
 |[],b=>by simp[gF]
 |x::a,b=>by simp only[List.cons_append,gF,VA a b];omega
theorem BH:∀(a:List Fl),gF a≤2*a.length
 |[]=>by simp[gF]
 |x::a=>by have:=BH a;simp only[gF,akl];split<;>omega
structure Prog (t:Int) (hd:Rl) (tl:List Rl) (cs:List Int) (fly:List Fl):Prop where
 none:1≤t→fly=[]
 has:∀c,c∈cs→min (hd.l.length:Int) (16*(t - 1))≤c
 com:∀r,r∈tl→min (hd.l.length:Int) (16*(t - 2))≤r.com
structure Dlv (t:Int) (hd:Rl) (tl:List Rl) (cs:List Int) (fly:List Fl):Prop where
 has:∀(j:Nat) (c:Int),cs[j+1]?=some c→min (hd.l.length:Int) (16*t)≤c∨∃x,x∈fly∧((x.k=4∧x.fr=(j:Int)+1∧min (hd.l.length:Int) (16*t)≤x.n)∨(x.k=3∧x.to=(j:Int)+1∧min (hd.l.length:Int) (16*t)≤x.n+(x.l.length:Int)))
 com:∀(j:Nat) (r:Rl),tl[j]?=some r→min (hd.l.length:Int) (16*(t - 1))≤r.com∨∃x,x∈fly∧x.k=3∧x.to=(j:Int)+1∧min (hd.l.length:Int) (16*(t - 1))≤x.n+(x.l.length:Int)∧min (hd.l.length:Int) (16*(t - 1))≤x.c
section
variable {hd:Rl} {tl:List Rl} {cs:List Int} {fly:List Fl}
theorem wZ:∀{os fly:List Fl},fly.length+os.length≤400→fq fly os=fly++os
 |[],fly,_=>by simp[fq]
 |o::os,fly,h=>by
  simp only[akl]at h
  rw[fq,if_pos (by omega),wZ (by simp only[akk,List.length_singleton];omega)]
  simp
theorem TO (h:FInv hd tl cs fly) {u:Int} (ha:∀c,c∈cs→u≤c):u≤hd.com:=by
 refine h.set u ?_
 have:(cs.filter fun x=>decide (u≤x))=cs:=List.filter_eq_self.2 fun c hc=>by simpa using ha c hc
 rw[this,h.clen]
 omega
theorem Dlv.start {t:Int} {os:List Fl} (h:FInv hd tl cs fly) (hp:Prog t hd tl cs fly) (ht:0≤t) (ha:IsApps hd cs os) (hm:cs.length≤4):Dlv t hd tl cs (fq fly os):=by
 have hlen:=ha.1
 by_cases h1:1≤t
 ·have hf:=hp.none h1
  subst hf
  have hte:fq [] os=os:=wZ (by simp;omega)
  rw[hte]
  have each:∀(j:Nat) (c:Int),cs[j+1]?=some c→∃x,x∈os∧x.k=3∧x.to=(j:Int)+1∧min (hd.l.length:Int) (16*t)≤x.n+(x.l.length:Int)∧x.c=hd.com:=fun j c hc=>by
   have hj:=(List.getElem?_eq_some_iff.1 hc).1
   obtain⟨x,hx⟩:∃x,os[j]?=some x:=⟨_,List.getElem?_eq_getElem (by omega)⟩
   obtain⟨_,a2,a3,⟨c',hc',a4,a5⟩,a6⟩:=ha.2 j x hx
   obtain rfl:c'=c:=by rw[hc]at hc';cases hc';rfl
   have hcl:=h.clen
   obtain⟨r,hr⟩:∃r,tl[j]?=some r:=⟨_,List.getElem?_eq_getElem (by omega)⟩
   obtain⟨b1,b2,_,b4,_⟩:=h.each j r c' hr hc
   have hb:=OS (l:=hd.l) b1 (by omega)
   have hh:=hp.has c' (akp hc)
   refine⟨x,akp hx,a3,a2,?_,a6⟩
   rw[a4,a5]
   omega
  have hcom:=TO h hp.has
  refine⟨fun j c hc=> ?_,fun j r hr=> ?_⟩
  ·obtain⟨x,hx,a1,a2,a3,_⟩:=each j c hc
   exact .inr ⟨x,hx,.inr ⟨a1,a2,a3⟩⟩
  ·have hj:=(List.getElem?_eq_some_iff.1 hr).1
   have hcl:=h.clen
   obtain⟨c,hc⟩:∃c,cs[j+1]?=some c:=⟨_,List.getElem?_eq_getElem (by omega)⟩
   obtain⟨x,hx,a1,a2,a3,a4⟩:=each j c hc
   exact .inr ⟨x,hx,a1,a2,by omega,by rw[a4];omega⟩
 ·have e0:t=0:=by omega
  subst e0
  refine⟨fun j c hc=>.inl ?_,fun j r hr=>.inl ?_⟩
  ·have hj:=(List.getElem?_eq_some_iff.1 hc).1
   have hcl:=h.clen
   obtain⟨r,hr⟩:∃r,tl[j]?=some r:=⟨_,List.getElem?_eq_getElem (by omega)⟩
   have:=(h.each j r c hr hc).1
   omega
  ·have hj:=(List.getElem?_eq_some_iff.1 hr).1
   have hcl:=h.clen
   obtain⟨c,hc⟩:∃c,cs[j+1]?=some c:=⟨_,List.getElem?_eq_getElem (by omega)⟩
   have:=(h.each j r c hr hc).2.2.2.2.1
   omega
theorem Dlv.come {t:Int} {x:Fl} {rest:List Fl} {hd':Rl} {tl':List Rl} {cs':List Int} {fly':List Fl} (h:FInv hd tl cs (x::rest)) (hD:Dlv t hd tl cs (x::rest)) (hc:Come hd tl cs rest x hd' tl' cs' fly'):Dlv t hd' tl' cs' fly'∧gF fly'+1=gF (x::rest)∧hd'.l=hd.l:=by
 have hm:=h.msgs x List.mem_cons_self
 have hfew:=h.few
 simp only[akl]at hfew
 cases hc with
 |app j r l com hv _ hk ht hr hT hf=>
  have hsub:FInv hd tl cs rest:=h.sub (fun y hy=>List.mem_cons_of_mem _ hy) (by omega)
  obtain⟨k1,k2,k3,k4,k5,k6,k7,k8⟩:=PU h hm hk ht hr hT
  have hj:=(List.getElem?_eq_some_iff.1 hr).1
  have hte:fly'=rest++[⟨(j:Int)+1,x.fr,4,(l.length:Int),0,hv,[]⟩]:=by rw[hf];exact wZ (by simp;omega)
  subst hte
  refine⟨⟨fun i c hc=> ?_,fun i s hs=> ?_⟩,?_,rfl⟩
  ·rcases hD.has i c hc with q|⟨y,hy,q⟩
   ·exact .inl q
   ·rcases List.mem_cons.1 hy with rfl|hy
    ·rcases q with⟨q1,_⟩|⟨_,q2,q3⟩
     ·omega
     ·obtain rfl:i=j:=by omega
      exact .inr ⟨_,List.mem_append_right _ (List.mem_singleton.2 rfl),.inl ⟨rfl,rfl,by simp only;omega⟩⟩
    ·exact .inr ⟨y,List.mem_append_left _ hy,q⟩
  ·by_cases e:j=i
   ·subst e
    rw[List.getElem?_set_self hj]at hs
    cases hs
    rcases hD.com j r hr with q|⟨y,hy,q1,q2,q3,q4⟩
    ·exact .inl (by simp only;omega)
    ·rcases List.mem_cons.1 hy with rfl|hy
     ·exact .inl (by simp only;omega)
     ·exact .inr ⟨y,List.mem_append_left _ hy,q1,q2,q3,q4⟩
   ·rw[List.getElem?_set_ne e]at hs
    rcases hD.com i s hs with q|⟨y,hy,q1,q2,q3,q4⟩
    ·exact .inl q
    ·rcases List.mem_cons.1 hy with rfl|hy
     ·omega
     ·exact .inr ⟨y,List.mem_append_left _ hy,q1,q2,q3,q4⟩
  ·rw[VA]
   simp[gF,hk]
   omega
 |ack j com _ maj hk h1 h2 hw hcs hmaj hR=>
  obtain⟨_,_,_,i0,r0,h3,h4,h5,h6⟩:=hm.ack hk
  obtain rfl:j=i0+1:=by omega
  have hcl:=h.clen
  refine⟨⟨fun i c hc=> ?_,fun i s hs=> ?_⟩,?_,rfl⟩
  ·have hi:i+1<cs.length:=by
    have:=(List.getElem?_eq_some_iff.1 hc).1
    rw[hcs,List.length_set,List.length_set]at this
    exact this
   have hg:cs[i+1]?=some (cs.getD (i+1) 0):=by rw[List.getD_eq_getElem?_getD,List.getElem?_eq_getElem hi];rfl
   by_cases e:i0=i
   ·subst e
    have hcv:c=max (cs.getD (i0+1) 0) x.n:=by
     rw[hcs,List.getElem?_set_ne (by omega),List.getElem?_set_self hi]at hc
     cases hc
     rfl
    rcases hD.has i0 _ hg with q|⟨y,hy,q⟩
    ·exact .inl (by simp only;omega)
    ·rcases List.mem_cons.1 hy with rfl|hy
     ·rcases q with⟨_,_,q3⟩|⟨q1,_⟩
      ·exact .inl (by simp only;omega)
      ·omega
     ·exact .inr ⟨y,hy,q⟩
   ·have hcv:c=cs.getD (i+1) 0:=by
     rw[hcs,List.getElem?_set_ne (by omega),List.getElem?_set_ne (by omega),hg]at hc
     cases hc
     rfl
    rcases hD.has i _ hg with q|⟨y,hy,q⟩
    ·exact .inl (by simp only;omega)
    ·rcases List.mem_cons.1 hy with rfl|hy
     ·rcases q with⟨_,q2,_⟩|⟨q1,_⟩
      ·omega
      ·omega
     ·exact .inr ⟨y,hy,q⟩
  ·rcases hD.com i s hs with q|⟨y,hy,q1,q2,q3,q4⟩
   ·exact .inl q
   ·rcases List.mem_cons.1 hy with rfl|hy
    ·omega
    ·exact .inr ⟨y,hy,q1,q2,q3,q4⟩
  ·simp[gF,hk]
   omega
theorem Dlv.stop {t:Int} (h:FInv hd tl cs []) (hD:Dlv t hd tl cs []):Prog (t+1) hd tl cs []:=by
 refine⟨fun _=>rfl,fun c hc=> ?_,fun r hr=> ?_⟩
 ·obtain⟨k,hk⟩:=List.mem_iff_getElem?.1 hc
  rw[show t+1 - 1=t by omega]
  cases k with
  |zero=>
   rw[h.c0]at hk
   cases hk
   omega
  |succ k=>
   rcases hD.has k c hk with q|⟨y,hy,_⟩
   ·exact q
   ·simp at hy
 ·obtain⟨k,hk⟩:=List.mem_iff_getElem?.1 hr
  rw[show t+1 - 2=t - 1 by omega]
  rcases hD.com k r hk with q|⟨y,hy,_⟩
  ·exact q
  ·simp at hy
theorem Prog.zero (h:FInv hd tl cs fly):Prog 0 hd tl cs fly:=by
 refine⟨fun h=>by omega,fun c hc=> ?_,fun r hr=> ?_⟩
 ·obtain⟨k,hk⟩:=List.mem_iff_getElem?.1 hc
  cases k with
  |zero=>rw[h.c0]at hk;cases hk;omega
  |succ k=>
   have:=(List.getElem?_eq_some_iff.1 hk).1
   have hcl:=h.clen
   obtain⟨r,hr⟩:∃r,tl[k]?=some r:=⟨_,List.getElem?_eq_getElem (by omega)⟩
   have:=(h.each k r c hr hk).1
   omega
 ·obtain⟨k,hk⟩:=List.mem_iff_getElem?.1 hr
  have:=(List.getElem?_eq_some_iff.1 hk).1
  have hcl:=h.clen
  obtain⟨c,hc⟩:∃c,cs[k+1]?=some c:=⟨_,List.getElem?_eq_getElem (by omega)⟩
  have:=(h.each k r c hk hc).2.2.2.2.1
  omega
def ajK (hd:Rl) (tl:List Rl):Prop:=hd.com=(hd.l.length:Int)∧∀r,r∈tl→r.l=hd.l∧r.com=(hd.l.length:Int)
theorem Prog.done {t:Int} (h:FInv hd tl cs fly) (hp:Prog t hd tl cs fly) (ht:20≤t) (hl:hd.l.length≤80):ajK hd tl:=by
 have h1:=TO h hp.has
 have h2:=h.coml
 refine⟨by omega,fun r hr=> ?_⟩
 obtain⟨k,hk⟩:=List.mem_iff_getElem?.1 hr
 have hkl:=(List.getElem?_eq_some_iff.1 hk).1
 have hcl:=h.clen
 obtain⟨c,hc⟩:∃c,cs[k+1]?=some c:=⟨_,List.getElem?_eq_getElem (by omega)⟩
 obtain⟨b1,b2,b3,b4,b5,b6⟩:=h.each k r c hk hc
 have h3:=hp.has c (akp hc)
 have h4:=hp.com r hr
 have e:r.l.length=hd.l.length:=by omega
 exact⟨by rw[b3,e,List.take_length],by omega⟩
end
end Go.Proofs.Tryz
