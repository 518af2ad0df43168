/- Definitions and lemmas of the proof, without a condition of their own. -/
import Derived.Test.YtjhpjjbnojbikaaGreatK5b
import Derived.KernelRfl
set_option linter.unusedSimpArgs false
set_option linter.unusedVariables false
open List renaming append_assoc→amb,flatten_cons→al8,length_append→al2,length_cons→al3,length_drop→amr,length_map→al4,length_nil→al5,length_take→ami,mem_of_getElem?→al7
open Nat renaming le_refl→amj
open Option.some renaming inj→amp
namespace Go.Proofs.Tryz
open Go Go.RowKit Go.Sy
open Go.Eng hiding aj
set_option linter.unusedVariables false
theorem agU {now fr B:Int} {s:St} {m:Mx} (h:IN s) (hm:cJ m) (hf:0≤fr∧fr<8) (hn:0≤now∧now≤1000000000) (hN:s.N+1≤B) (hB:B<4294967295):RB B (fK now s fr m):=by
 unfold fK
 split
 ·exact⟨h.sb (by omega),dG,Nat.zero_le _⟩
 ·rename_i hg
  have r0:=h.ok.ro0
  have r1:=h.ok.ro1
  exact ZO (aj3 h (by omega)) hm hf hn (fun hb=>⟨by dsimp only;omega,by dsimp only;omega⟩) hN hB
theorem wv {m l:List Int} {p:Int} (hm:NL m) (hl:NL l):NL (eY m l p):=by
 unfold eY
 split
 ·rename_i q
  have:=wu hl (hm.2 p q.1)
  unfold eg at this
  rwa[if_neg q.2]at this
 ·exact hl
theorem ad5 {m:List Int} {me ba com fr c:Int} {log l:List Ke} {sh:Bool} (h:bV log) (hl:bV l):bV (fV m me log ba com sh fr l c).1:=by
 unfold fV
 split
 ·split
  ·exact BI h (FH hl)
  ·exact h
 ·exact h
theorem Lt {s:St} (h:bz s):cJ (BW s):=afr h.n0 (by have:=h.n1;omega) h.r.nl (List.ne_nil_of_mem h.r.me) (xn h.log) (by have:=h.r.len;rw[ami];omega)
theorem YU {now fr B:Int} {s:St} {m:Mx} (h:SB B s) (hm:cJ m) (h1:m.N≤B) (h2:m.vn≤B) (hf:0≤fr∧fr<8) (hn:0≤now∧now≤1000000000) (hB:B+1<4294967295):RB (B+1) (bm now s fr m):=by
 have g:=h.ga
 have hN:=h.N
 have hse:=h.se
 have one:∀{x:Int×Mx},[x].length≤100:=fun{x}=>by show 1≤100;decide
 have hle:∀{me:Int} {x:Mx} {p:Int},(cB me x [p]).length≤100:=fun{me x p}=>Nat.le_trans kY (by show 1≤100;decide)
 unfold bm
 split
 ·rename_i hk
  have k:=Br hm hk
  obtain⟨_,_,_,_,_,_,_,_,_,_,k1,k2,k3,k4,k5⟩:=k
  refine⟨?_,dG,Nat.zero_le _⟩
  dsimp only
  split
  ·exact ud g hn k2 (by omega) (by omega) (by omega) k4 k5
  ·exact h.le (by omega)
 ·split
  ·rename_i hk
   have k:=zG hm hk.1
   obtain⟨_,_,_,_,_,_,_,_,_,k0,k1,k2,k3,k4,k5,k6⟩:=k
   unfold px
   split
   ·rename_i hN0
    have i:=h.inn hN0
    have n1:=i.ok.n1
    unfold eP
    dsimp only
    split
    ·split
     ·exact⟨(i.sb (by omega)),dG,Nat.zero_le _⟩
     ·have r:=iL (sh:=s.sh) (fr:=m.fr) (l:=m.l) (c:=m.c) i.ok.r
      have hl:=r.len
      exact⟨(BX (hs:=s.hs) i r (ad5 i.ok.log k6)).sb (by dsimp only;omega),nZ hf (mo4 hN0 (by omega) (by omega)) (by dsimp only[aF];omega) (by dsimp only[aF];omega),one⟩
    ·split
     ·exact⟨(i.sb (by omega)),dG,Nat.zero_le _⟩
     ·exact⟨(i.sb (by omega)),nZ hf (mo4 (fr:=0) hN0 (by omega) (by omega)) (by dsimp only[aF];omega) (by dsimp only[aF];omega),one⟩
   ·unfold nN
    split
    ·exact⟨h.le (by omega),dG,Nat.zero_le _⟩
    ·exact⟨h.le (by omega),nZ hf (afq g.me) (by dsimp only[aF];omega) (by dsimp only[aF];omega),one⟩
  ·split
   ·rename_i q
    exact⟨h.le (by omega),jU (fun x hx=>by simp only[List.mem_singleton]at hx;subst hx;exact hf) (Lt (h.inn q.1).ok) (by dsimp only[BW,aF];omega) (by dsimp only[BW,aF];omega),hle⟩
   ·split
    ·rename_i q
     obtain⟨_,_,_,_,_,_,_,_,_,_,_,p1,p2,_⟩:=uV hm q.2
     have i:=h.inn q.1
     unfold dm
     split
     ·exact⟨(og (su:=s.su) (go:=s.go) (met:=s.met) (jo:=s.jo) i i.ok.su i.ok.jo i.ok.go i.ok.met).sb (by dsimp only;omega),jU (fun x hx=>by simp only[List.mem_singleton]at hx;subst hx;exact⟨p1,p2⟩) (Lt i.ok) (by dsimp only[aF];omega) (by dsimp only[aF];omega),hle⟩
     ·exact⟨(og (su:=s.su) (go:=s.go) (met:=s.met) i i.ok.su (wu i.ok.jo ⟨p1,p2⟩) i.ok.go i.ok.met).sb (by dsimp only;omega),dG,Nat.zero_le _⟩
    ·split
     ·refine⟨?_,dG,Nat.zero_le _⟩
      dsimp only
      split
      ·rename_i q
       have i:=h.inn q.1
       exact(og (su:=s.su) (jo:=s.jo) (met:=s.met) i i.ok.su i.ok.jo (wv i.ok.r.nl i.ok.go) i.ok.met).sb (by dsimp only;omega)
      ·exact h.le (by omega)
     ·rename_i q
      have hN0:0<s.N:=Classical.not_not.1 fun e=>q (.inl e)
      exact agU (h.inn hN0) hm hf hn (by omega) hB
theorem ab3 {B:Int} {s:St} (h:bz s) (hN:s.N≤B):OB B (pG s)∧(pG s).length≤16:=by
 have n0:=h.n0
 have n1:=h.n1
 have me:=h.r.nl.2 _ h.r.me
 have l8:=ah h.r.nl
 have ha:OB B (lI s.me s.m s.go)∧(lI s.me s.m s.go).length≤8:=by
  unfold lI
  split
  ·exact⟨jU h.r.nl.2 (alp me) (by dsimp only[aF];omega) (by dsimp only[aF];omega),Nat.le_trans kY l8⟩
  ·exact⟨dG,Nat.zero_le _⟩
 have hb:OB B (pP s.N s.m s.me s.log s.com s.hs)∧(pP s.N s.m s.me s.log s.com s.hs).length≤8:=by
  unfold pP
  split
  ·refine⟨fun y hy=> ?_,by rw[al4,amr];omega⟩
   obtain⟨p,hp,rfl⟩:=List.mem_map.1 hy
   have hb:=fx h.r p
   have hl:=h.r.len
   have c0:=h.r.com0
   have c1:=h.r.com1
   unfold jj fW
   refine⟨h.r.nl.2 p (List.mem_of_mem_drop hp),?_,by dsimp only[aF];omega,by dsimp only[aF];omega⟩
   split
   ·exact mo3 n0 (by omega) hb.1 (by omega) (by dsimp only;rw[ami,amr];omega) (xn (FH h.log))
   ·exact mo3 n0 (by omega) (Int.le_refl 0) (by omega) (by show(0:Int)+0≤400;decide) qv
  ·exact⟨dG,Nat.zero_le _⟩
 unfold pG
 exact⟨qd ha.1 hb.1,by rw[al2];omega⟩
theorem EI {now B:Int} {s:St} (h:SB B s) (hn:0≤now∧now≤1000000000) (hB:B+1<4294967295):RB (B+1) (bZ now s):=by
 have g:=h.ga
 have hN:=h.N
 have hse:=h.se
 unfold bZ
 split
 ·refine⟨h.le (by omega),?_,?_⟩
  ·dsimp only
   split
   ·exact jU g.met.2 (afq g.me) (by dsimp only[aF];omega) (by dsimp only[aF];omega)
   ·exact dG
  ·dsimp only
   split
   ·exact Nat.le_trans kY (by have:=ah g.met;omega)
   ·exact Nat.zero_le _
 ·rename_i q
  have hN0:0<s.N:=Classical.not_not.1 q
  have i:=h.inn hN0
  have t:=ab3 i.ok hN
  split
  ·rename_i v hv
   refine⟨h.le (by omega),qd (t.1.le (by omega)) ((Jk i.ok (i.q v hv) hN).le (by omega)),?_⟩
   have:=ah i.ok.r.nl
   have:=mE (N:=s.N) (me:=s.me) (m:=s.m) (v:=v)
   rw[al2];omega
  ·split
   ·obtain⟨r,bl⟩:=ahf (B:=B+1) i hn (by omega) hB
    exact⟨r.s,qd (t.1.le (by omega)) r.o,by rw[al2];omega⟩
   ·exact⟨h.le (by omega),t.1.le (by omega),by have:=t.2;dsimp only;omega⟩
theorem YB {B:Int} {s:St} (h:SB B s):SB B (hU s):=by
 unfold hU
 split
 ·exact h
 ·rename_i q
  have g:=h.ga
  exact⟨⟨fun e=>absurd e q,fun _=>⟨(h.si.2 q).se0,(h.si.2 q).se1,g.me,g.su,g.jo,g.go,g.met,g.was,g.wasl⟩⟩,h.ro,h.N,h.se⟩
theorem PN {B:Int} {s:St} (h:SB B s):SB B (fR s):=by
 unfold fR
 split
 ·rename_i q
  have i:=h.inn q
  exact(og (su:=s.su) (jo:=s.jo) (met:=s.met) i i.ok.su i.ok.jo (wv i.ok.r.nl i.ok.go) i.ok.met).sb h.N
 ·exact h
theorem VV {B x:Int} {s:St} (h:SB B s):SB B (gY s x):=by
 unfold gY
 split
 ·rename_i q
  have i:=h.inn q
  refine(og (go:=s.go) (jo:=s.jo) (met:=s.met) (su:=oB s.m s.me s.su x) i ?_ i.ok.jo i.ok.go i.ok.met).sb h.N
  unfold oB
  split
  ·exact i.ok.su
  ·exact wv i.ok.r.nl i.ok.su
 ·exact h
theorem ad7 {B:Int} {s:St} {x:Ke} (h:SB B s) (hx:vQ x):SB B (kq s x):=by
 unfold kq
 split
 ·rename_i q
  have i:=h.inn q
  refine(BX i (ahs x i.ok.r) ?_).sb h.N
  unfold gT
  split
  ·exact BI i.ok.log fun y hy=>by simp only[List.mem_singleton]at hy;subst hy;exact hx
  ·exact i.ok.log
 ·exact h
theorem Yg {B:Int} {s:St} {l:List Int} (h:SB B s) (hl:NL l):SB B (gm s l):=by
 by_cases q:0<s.N
 ·have i:=h.inn q
  exact(og (su:=s.su) (go:=s.go) (jo:=s.jo) (met:=l) i i.ok.su i.ok.jo i.ok.go hl).sb h.N
 ·have g:=h.ga
  exact⟨⟨fun e=>absurd e q,fun _=>⟨(h.si.2 q).se0,(h.si.2 q).se1,g.me,g.su,g.jo,g.go,hl,g.was,g.wasl⟩⟩,h.ro,h.N,h.se⟩
theorem jX:NL []:=⟨List.nodup_nil,fun _ h=>by cases h⟩
theorem Km {me:Int} {l:List Int} (hm:0≤me∧me<8) (hl:NL l) (hne:¬l=[]):SB 1 (eE me l):=by
 unfold eE
 split
 ·exact ud ⟨hm,jX,jX,jX,jX,qv,Nat.zero_le _,⟨Int.le_refl 0,by show(0:Int)<4294967296;decide⟩,Int.le_refl 0,fun e=>absurd e (by show¬(0:Int)<0;decide)⟩ (by decide) hl (by decide) (by decide) (by decide) qv (Nat.zero_le _)
 ·exact⟨⟨fun e=>absurd e (by show¬(0:Int)<0;decide),fun _=>⟨Int.le_refl 0,by show(0:Int)<4294967295;decide,hm,jX,jX,jX,jX,qv,Nat.zero_le _⟩⟩,⟨Int.le_refl 0,by show(0:Int)<4294967296;decide⟩,by show(0:Int)≤1;decide,Int.le_refl 0,by show(0:Int)≤1;decide⟩
def TOk (B:Int) (y:Int×Int×Mx):Prop:=(0≤y.1∧y.1<8)∧(0≤y.2.1∧y.2.1<8)∧cJ y.2.2∧y.2.2.N≤B∧y.2.2.vn≤B
structure FI (B:Int) (f:Fx):Prop where
 ss:f.ss.length≤8
 dn:f.dn.length=f.ss.length
 s:∀x∈f.ss,SB B x
 fly:∀y∈f.fly,TOk B y
 now:0≤f.now
theorem TOk.le {B C:Int} {y:Int×Int×Mx} (h:TOk B y) (hc:B≤C):TOk C y:=⟨h.1,h.2.1,h.2.2.1,by have:=h.2.2.2.1;omega,by have:=h.2.2.2.2;omega⟩
theorem dT {ss:List St} {n:Nat} (h:n<ss.length):aI ss n∈ss:=al7 (dW h)
theorem EJ {B fr:Int} {F:List (Int×Int×Mx)} {os:List (Int×Mx)} (h:∀y∈F,TOk B y) (hf:0≤fr∧fr<8) (ho:OB B os):∀y∈ef F fr os,TOk B y:=fun y hy=>by
 unfold ef at hy
 rcases List.mem_append.1 hy with hy|hy
 ·exact h y hy
 ·obtain⟨x,hx,rfl⟩:=List.mem_map.1 hy
  have:=ho x (List.mem_of_mem_take hx)
  exact⟨hf,this.1,this.2.1,this.2.2.1,this.2.2.2⟩
theorem oT {ss:List St} {n:Nat} {a x:St} (h:x∈ss.set n a):x∈ss∨x=a:=List.mem_or_eq_of_mem_set h
theorem UB {B C:Int} {f:Fx} (h:FI B f) (hc:B≤C):FI C f:=⟨h.ss,h.dn,fun x hx=>(h.s x hx).le hc,fun y hy=>(h.fly y hy).le hc,h.now⟩
theorem FO {B:Int} {f:Fx} {t:Int×Int×Mx} (h:FI B f) (ht:TOk B t) (hn:f.now≤1000000000) (hB:B+1<4294967295) (hl:t.2.1<f.ss.length):RB (B+1) (bm f.now (aI f.ss t.2.1.toNat) t.1 t.2.2):=
 YU (h.s _ (dT (by have:=ht.2.1;omega))) ht.2.2.1 ht.2.2.2.1 ht.2.2.2.2 ht.1 ⟨h.now,hn⟩ hB
theorem ZG {B:Int} {f:Fx} {t:Int×Int×Mx} (h:FI B f) (ht:TOk B t) (hn:f.now≤1000000000) (hB:B+1<4294967295):FI (B+1) (dE f t):=by
 unfold dE
 split
 ·rename_i q
  have r:=FO h ht hn hB q.1
  refine⟨by rw[List.length_set];exact h.ss,by rw[List.length_set];exact h.dn,fun x hx=> ?_,EJ (fun y hy=>(h.fly y hy).le (by omega)) ht.2.1 r.o,h.now⟩
  rcases oT hx with hx|rfl
  ·exact(h.s x hx).le (by omega)
  ·exact r.s
 ·exact UB h (by omega)
theorem FX {B x:Int} {f:Fx} (h:FI B f) (hx:0≤x∧x<f.ss.length) (hn:f.now+1≤1000000000) (hB:B+1<4294967295):FI (B+1) (cS f x):=by
 have h0:=h.now
 have h8:=h.ss
 unfold cS
 split
 ·have r:=EI (now:=f.now+1) (h.s _ (dT (n:=x.toNat) (by omega))) (by omega) hB
  refine⟨by rw[List.length_set];exact h.ss,by rw[List.length_set];exact h.dn,fun y hy=> ?_,EJ (fun y hy=>(h.fly y hy).le (by omega)) (by omega) r.o,by dsimp only;omega⟩
  rcases oT hy with hy|rfl
  ·exact(h.s y hy).le (by omega)
  ·exact r.s
 ·have:=UB h (show B≤B+1 by omega)
  exact⟨this.ss,this.dn,this.s,this.fly,by dsimp only;omega⟩
theorem come_ss {f:Fx} {t:Int×Int×Mx}:(dE f t).ss.length=f.ss.length∧(dE f t).dn=f.dn∧(dE f t).now=f.now:=by
 unfold dE
 split
 ·exact⟨List.length_set,rfl,rfl⟩
 ·exact⟨rfl,rfl,rfl⟩
theorem tick_ss {f:Fx} {x:Int}:(cS f x).ss.length=f.ss.length∧(cS f x).dn=f.dn∧(cS f x).now=f.now+1:=by
 unfold cS
 split
 ·exact⟨List.length_set,rfl,rfl⟩
 ·exact⟨rfl,rfl,rfl⟩
structure FC (k:Int) (f:Fd):Prop where
 w:FW f
 i:∃B,FI B f.er∧B+k≤4000000000
 now:f.now+k≤999999999
 L:(f.L.length:Int)+1000*k≤900000000
theorem FC.le {k j:Int} {f:Fd} (h:FC k f) (hj:j≤k):FC j f:=by
 obtain⟨B,h1,h2⟩:=h.i
 exact⟨h.w,⟨B,h1,by omega⟩,by have:=h.now;omega,by have:=h.L;omega⟩
theorem Uy {f g:Fd} {X:Fx} (h:FW f) (he:g.er=X) (hx:X.ss.length=f.ss.length∧X.dn=f.dn) (hp:g.ps=f.ps) (ha:g.a≤g.L.length) (hl:g.L.length≤1000000000):FW g:=by
 have e1:g.ss=X.ss:=congrArg Fx.ss he
 have e2:g.dn=X.dn:=congrArg Fx.dn he
 exact⟨by rw[hp,e1,hx.1];exact h.ps,by rw[e2,hx.2,e1,hx.1];exact h.dn,by rw[e1,hx.1];exact h.ss,ha,hl⟩
theorem FC.at {k:Int} {f:Fd} (h:FC k f) (hk:0≤k):∃B,FI B f.er∧B≤4000000000∧0≤f.now:=by
 obtain⟨B,h1,h2⟩:=h.i
 exact⟨B,h1,by omega,h1.now⟩
theorem Rc {f:Fd} {t:Fl} {B:Int} (hw:FW f) (h:FI B f.er) (hB:B+1≤4000000001) (hn:f.now≤1000000000) (hL:f.L.length≤900000000) (ht:TOk B t.er):
  FW f∧f.L.length≤900000000∧0≤t.to∧0≤f.now∧f.now≤1000000000∧cJ t.m.er∧t.m.vn<4294967295∧0≤t.fr∧t.fr<8∧(t.to<(f.ss.length:Int)→SI (aI f.ss t.to.toNat)∧(aI f.ss t.to.toNat).N+1<4294967295∧qZ (bm f.now (aI f.ss t.to.toNat) t.fr t.m.er).2∧(bm f.now (aI f.ss t.to.toNat) t.fr t.m.er).2.length≤1000):=by
 obtain⟨⟨t1,t2⟩,⟨t3,t4⟩,t5,t6,t7⟩:=ht
 have t7:t.m.vn≤B:=t7
 refine⟨hw,hL,t3,h.now,hn,t5,by omega,t1,t2,fun q=> ?_⟩
 have r:=FO (t:=t.er) h ⟨⟨t1,t2⟩,⟨t3,t4⟩,t5,t6,t7⟩ hn (by omega) q
 have s:=h.s _ (dT (n:=t.to.toNat) (show t.to.toNat<f.er.ss.length by have t3:0≤t.to:=t3;show t.to.toNat<f.ss.length;omega))
 have sN:=s.N
 have rl:=r.l
 exact⟨s.si,by show(aI f.er.ss t.to.toNat).N+1<4294967295;omega,TT r.o,by show(bm f.er.now (aI f.er.ss t.er.2.1.toNat) t.er.1 t.er.2.2).2.length≤1000;omega⟩
theorem Am {f:Fd} {x B:Int} (hw:FW f) (h:FI B f.er) (hB:B+1≤4000000001) (hn:f.now<1000000000) (hL:f.L.length≤900000000) (hx:0≤x∧x<f.ss.length):
  FW f∧f.L.length≤900000000∧0≤x∧x<(f.ss.length:Int)∧0≤f.now∧f.now<1000000000∧SI (aI f.ss x.toNat)∧(aI f.ss x.toNat).N+1<4294967295∧qZ (bZ (f.now+1) (aI f.ss x.toNat)).2∧(bZ (f.now+1) (aI f.ss x.toNat)).2.length≤1000:=by
 have h0:=h.now
 have h0:0≤f.now:=h0
 have s:=h.s _ (dT (n:=x.toNat) (show x.toNat<f.er.ss.length by show x.toNat<f.ss.length;omega))
 have sN:=s.N
 have r:=EI (now:=f.now+1) s (by omega) (by omega)
 have rl:=r.l
 exact⟨hw,hL,hx.1,hx.2,h0,hn,s.si,by show(aI f.er.ss x.toNat).N+1<4294967295;omega,TT r.o,by show(bZ (f.now+1) (aI f.er.ss x.toNat)).2.length≤1000;omega⟩
def PO (f g:Fd) (X:Fx) (k:Int):Prop:=g.er=X∧g.ps=f.ps∧∀c,0≤c→FC (k+c) f→FC c g
theorem wj {f g:Fd} {x:Int} (hx:0≤x∧x<f.ss.length) (h:g.er=cS f.er x∧g.ps=f.ps∧g.a≤g.L.length∧g.L.length≤f.L.length+1000):PO f g (cS f.er x) 1:=by
 refine⟨h.1,h.2.1,fun c hc hf=> ?_⟩
 have hL:=hf.L
 have hn:=hf.now
 obtain⟨B,h1,h2⟩:=hf.i
 have e:g.now=f.now+1:=(congrArg Fx.now h.1).trans tick_ss.2.2
 refine⟨Uy hf.w h.1 ⟨tick_ss.1,tick_ss.2.1⟩ h.2.1 h.2.2.1 (by omega),⟨B+1,?_,by omega⟩,by omega,by omega⟩
 rw[h.1]
 exact FX h1 hx (show f.now+1≤1000000000 by omega) (by omega)
theorem PO.trans {f g r:Fd} {X Y:Fx} {a b c:Int} (h1:PO f g X a) (h2:PO g r Y b) (hc:c=a+b) (hb:0≤b):PO f r Y c:=by
 subst hc
 exact⟨h2.1,h2.2.1.trans h1.2.1,fun d hd hf=>h2.2.2 d hd (h1.2.2 (b+d) (by omega) (by rw[←Int.add_assoc];exact hf))⟩
theorem PO.refl {f:Fd} {k:Int} (hk:0≤k):PO f f f.er k:=⟨rfl,rfl,fun c hc hf=>hf.le (by omega)⟩
theorem PO.eq {f g:Fd} {X Y:Fx} {k:Int} (h:PO f g X k) (e:X=Y):PO f g Y k:=e▸h
structure Sg where
 k:Int
 x:Int
 y:Int
 i:Int
def dX {α:Type} (l:List α) (k j:Int):List α:=if k=5 then l else l.take j.toNat++l.drop (j.toNat+1)
def eF (x n:Int):Int:=(x.tmod n+n).tmod n
theorem kP (x n:Int) (h:0<n): -n<x.tmod n∧x.tmod n<n:=⟨by have:=Int.lt_tmod_of_pos x h;omega,Int.tmod_lt_of_pos x h⟩
theorem gk (x n:Int) (h:0<n):0≤(x.tmod n+n).tmod n∧(x.tmod n+n).tmod n<n:=⟨Int.tmod_nonneg n (by have:=kP x n h;omega),Int.tmod_lt_of_pos _ h⟩
theorem rp {L A C X:List Fl} {a:Nat} {j k:Int} (h0:0≤j) (hj:j<((L.length - a:Nat):Int)) (ha:a≤L.length) (hk:¬k=5) (hA:(L.drop a).take j.toNat=A) (hC:(L.drop (a+(j+1).toNat)).take ((L.length - a) - (j+1).toNat)=C) (hX:X=A++C):X.drop 0=dX (L.drop a) k j∧0≤X.length∧X.length≤L.length:=by
 have e1:(L.drop (a+(j+1).toNat)).take ((L.length - a) - (j+1).toNat)=(L.drop a).drop (j.toNat+1):=by
  rw[List.drop_drop,show(j+1).toNat=j.toNat+1 by omega]
  exact List.take_of_length_le (by rw[amr];omega)
 subst hX hA hC
 refine⟨?_,Nat.zero_le _,?_⟩
 ·unfold dX
  rw[if_neg hk,e1,List.drop_zero]
 ·rw[al2,ami,ami,amr,amr]
  omega
theorem ajv {L:List Fl} {a:Nat} {j k:Int} (ha:a≤L.length) (hk:k=5):L.drop a=dX (L.drop a) k j∧a≤L.length∧L.length≤L.length:=⟨by unfold dX;rw[if_pos hk],ha,amj _⟩
theorem Wl {α β:Type} {g:α→β} {l:List α} {k j:Int}:∀y∈(dX l k j).map g,y∈l.map g:=fun y hy=>by
 obtain⟨x,hx,rfl⟩:=List.mem_map.1 hy
 refine List.mem_map_of_mem ?_
 unfold dX at hx
 split at hx
 ·exact hx
 ·rcases List.mem_append.1 hx with hx|hx
  ·exact List.mem_of_mem_take hx
  ·exact List.mem_of_mem_drop hx
theorem Wm {α β:Type} {g:α→β} {l:List α} {k j:Int}:(dX l k j).map g=dX (l.map g) k j:=by
 unfold dX
 split
 ·rfl
 ·rw[List.map_append,List.map_take,List.map_drop]
def gP (f:Fx) (s:Sg):Fx:=match f.fly[(eF s.i (f.fly.length:Int)).toNat]? with
 |none=>f
 |some t=>if s.k=6 then {f with fly:=dX f.fly s.k (eF s.i (f.fly.length:Int))} else dE {f with fly:=dX f.fly s.k (eF s.i (f.fly.length:Int))} t
def jm:Nat→Int→Fx→Fx
 |0,_,f=>f
 |n+1,x,f=>jm n x (cS f x)
def zJ (n:Int):Ke:=⟨n.tmod 16,1+n.tdiv 16⟩
def cU (f:Fx) (s:Sg):Fx:=
 let x:=eF s.x (f.ss.length:Int)
 let a:=aI f.ss x.toNat
 if s.k=0 then cS f x
 else if 1≤s.k∧s.k≤6 then gP f s
 else if s.k=7 then (if f.dn[x.toNat]?=some false then {f with n:=f.n+1,ss:=f.ss.set x.toNat (kq a (zJ (f.n+1)))} else f)
 else if s.k=8 then {f with ss:=f.ss.set x.toNat (gY a (eF s.y (f.ss.length:Int)))}
 else if s.k=9 then {f with ss:=f.ss.set x.toNat (hU a)}
 else if s.k=10 then {f with ss:=f.ss.set x.toNat (fR a)}
 else if s.k=11 then {f with dn:=f.dn.set x.toNat true}
 else if s.k=12 then jm 10 x f
 else f
theorem PO.le {f g:Fd} {X:Fx} {a b:Int} (h:PO f g X a) (hb:a≤b):PO f g X b:=⟨h.1,h.2.1,fun c hc hf=>h.2.2 c hc (hf.le (by omega))⟩
theorem Aw {B:Int} {f:Fd} {L:List Fl} {a o cp:Nat} {k j:Int} (h:FI B f.er) (e:L.drop a=dX (f.L.drop f.a) k j):FI B ({f with L:=L,a:=a,o:=o,cp:=cp}:Fd).er:=
 ⟨h.ss,h.dn,h.s,fun y hy=>h.fly y (Wl y (by rw[←e];exact hy)),h.now⟩
theorem Mj {B:Int} {f:Fd} {x:Fl} {j:Nat} (h:FI B f.er) (hx:f.L[f.a+j]?=some x):TOk B x.er:=by
 refine h.fly _ (List.mem_map_of_mem ?_)
 exact al7 (i:=j) (by rw[List.getElem?_drop];exact hx)
theorem Kf {f:Fd} {L:List Fl} {a o cp:Nat} {k j:Int} (e:L.drop a=dX (f.L.drop f.a) k j∧a≤L.length∧L.length≤f.L.length):PO f {f with L:=L,a:=a,o:=o,cp:=cp} ({f with L:=L,a:=a,o:=o,cp:=cp}:Fd).er 0:=by
 refine⟨rfl,rfl,fun c hc hf=> ?_⟩
 obtain⟨B,h1,h2⟩:=hf.i
 have hL:=hf.L
 exact⟨⟨hf.w.ps,hf.w.dn,hf.w.ss,e.2.1,by dsimp only;omega⟩,⟨B,Aw h1 e.1,by omega⟩,by have:=hf.now;dsimp only;omega,by dsimp only;omega⟩
theorem Of {f f2 g:Fd} {x:Fl} (h0:PO f f2 f2.er 0) (ht:∀B,FI B f.er→TOk B x.er) (hi:∀B,FI B f.er→FI B f2.er) (hn:f2.now=f.now) (hl:f2.L.length≤f.L.length)
  (h:g.er=dE f2.er x.er∧g.ps=f2.ps∧g.a≤g.L.length∧g.L.length≤f2.L.length+1000):PO f g (dE f2.er x.er) 1:=by
 refine⟨h.1,h.2.1.trans h0.2.1,fun c hc hf=> ?_⟩
 have hL:=hf.L
 have hnow:=hf.now
 have w2:=(h0.2.2 (1+c) (by omega) (by rw[Int.zero_add];exact hf)).w
 obtain⟨B,h1,h2⟩:=hf.i
 have e:g.now=f2.now:=(congrArg Fx.now h.1).trans come_ss.2.2
 refine⟨Uy w2 h.1 ⟨come_ss.1,come_ss.2.1⟩ h.2.1 h.2.2.1 (by omega),⟨B+1,?_,by omega⟩,by omega,by omega⟩
 rw[h.1]
 exact ZG (hi B h1) (ht B h1) (show f2.now≤1000000000 by omega) (by omega)
theorem ZD {f:Fd} {x:Fl} {j:Nat} (hx:f.L[f.a+j]?=some x):f.er.fly[j]?=some x.er:=by
 show((f.L.drop f.a).map Fl.er)[j]?=_
 rw[List.getElem?_map,List.getElem?_drop,hx];rfl
theorem FU {f:Fd}:(f.er.fly.length:Int)=((f.L.length - f.a:Nat):Int):=by
 show(((f.L.drop f.a).map Fl.er).length:Int)=_
 rw[al4,amr]
theorem ajW {f:Fd} {s:Sg} {kk:Int} (hk:kk=((f.L.length - f.a:Nat):Int)) (h:kk=0):PO f f (gP f.er s) 1:=by
 refine(PO.refl (by omega)).eq ?_
 have e:f.er.fly=[]:=List.length_eq_zero_iff.1 (by have:=FU (f:=f);omega)
 unfold gP
 rw[e]
 rfl
theorem Uq {f:Fd} {s:Sg} {x:Fl} {kk:Int} (hk:kk=((f.L.length - f.a:Nat):Int)) (hx:f.L[f.a+(eF s.i kk).toNat]?=some x):gP f.er s=if s.k=6 then {f.er with fly:=dX f.er.fly s.k (eF s.i kk)} else dE {f.er with fly:=dX f.er.fly s.k (eF s.i kk)} x.er:=by
 have e:kk=(f.er.fly.length:Int):=by rw[FU];exact hk
 unfold gP
 rw[←e,ZD hx]
theorem JX {f:Fd} {L:List Fl} {a o cp:Nat} {k j:Int} (e:L.drop a=dX (f.L.drop f.a) k j):({f with L:=L,a:=a,o:=o,cp:=cp}:Fd).er={f.er with fly:=dX f.er.fly k j}:=by
 show(⟨f.ss,f.dn,(L.drop a).map Fl.er,f.now,f.n⟩:Fx)=⟨f.ss,f.dn,dX ((f.L.drop f.a).map Fl.er) k j,f.now,f.n⟩
 rw[e,Wm]
theorem ajV {f:Fd} {s:Sg} {x:Fl} {kk:Int} {L:List Fl} {a o cp:Nat} (hk:kk=((f.L.length - f.a:Nat):Int)) (hx:f.L[f.a+(eF s.i kk).toNat]?=some x) (e:L.drop a=dX (f.L.drop f.a) s.k (eF s.i kk)∧a≤L.length∧L.length≤f.L.length) (h6:s.k=6):
  PO f {f with L:=L,a:=a,o:=o,cp:=cp} (gP f.er s) 1:=by
 refine((Kf e).le (by omega)).eq ?_
 rw[Uq hk hx,if_pos h6,JX e.1]
theorem ajU {f g:Fd} {s:Sg} {x:Fl} {kk:Int} {L:List Fl} {a o cp:Nat} (hk:kk=((f.L.length - f.a:Nat):Int)) (hx:f.L[f.a+(eF s.i kk).toNat]?=some x) (e:L.drop a=dX (f.L.drop f.a) s.k (eF s.i kk)∧a≤L.length∧L.length≤f.L.length) (h6:¬s.k=6)
  (h:g.er=dE ({f with L:=L,a:=a,o:=o,cp:=cp}:Fd).er x.er∧g.ps=f.ps∧g.a≤g.L.length∧g.L.length≤L.length+1000):PO f g (gP f.er s) 1:=by
 refine(Of (f2:={f with L:=L,a:=a,o:=o,cp:=cp}) (Kf e) (fun B hB=>Mj hB hx) (fun B hB=>Aw hB e.1) rfl e.2.2 h).eq ?_
 rw[Uq hk hx,if_neg h6,JX e.1]
theorem ND {f g r:Fd} {x i:Int} (h0:0≤i) (h1:i<10) (hx0:0≤x) (hx1:x<(f.ps.length:Int)) (hw:FW f) (hc:g.er=cS f.er x∧g.ps=f.ps∧g.a≤g.L.length∧g.L.length≤f.L.length+1000)
  (hz:PO g r (jm (10 - (i+1)).toNat x g.er) (10 - (i+1))):PO f r (jm (10 - i).toNat x f.er) (10 - i):=by
 have hp:=hw.ps
 have k:=wj ⟨hx0,by omega⟩ hc
 refine(k.trans hz (by omega) (by omega)).eq ?_
 rw[show(10 - i).toNat=(10 - (i+1)).toNat+1 by omega,jm,hc.1]
theorem VS {f:Fd} {x i:Int} (h0:i≤10) (h:¬i<10):PO f f (jm (10 - i).toNat x f.er) (10 - i):=by
 refine(PO.refl (by omega)).eq ?_
 rw[show(10 - i).toNat=0 by omega];rfl
theorem ad3 {f g:Fd} {x i:Int} (hf:FC (10 - i) f) (h1:i<10) (hx0:0≤x) (hx1:x<(f.ps.length:Int)) (hc:g.er=cS f.er x∧g.ps=f.ps∧g.a≤g.L.length∧g.L.length≤f.L.length+1000):FC (10 - (i+1)) g:=by
 have hp:=hf.w.ps
 exact(wj ⟨hx0,by omega⟩ hc).2.2 _ (by omega) (hf.le (by omega))
theorem uu {f:Fd} {i:Nat} {s:St} {m:Int} (hi:i<f.ss.length) (hs:∀B,SB B (aI f.ss i)→SB B s):PO f {f with ss:=f.ss.set i s,n:=m} {f.er with ss:=f.ss.set i s,n:=m} 0:=by
 refine⟨rfl,rfl,fun c hc hf=> ?_⟩
 obtain⟨B,h1,h2⟩:=hf.i
 refine⟨⟨by dsimp only;rw[List.length_set];exact hf.w.ps,by dsimp only;rw[List.length_set];exact hf.w.dn,by dsimp only;rw[List.length_set];exact hf.w.ss,hf.w.a,hf.w.L⟩,⟨B,⟨by show(f.ss.set i s).length≤8;rw[List.length_set];exact h1.ss,by show f.dn.length=(f.ss.set i s).length;rw[List.length_set];exact h1.dn,fun x hx=> ?_,h1.fly,h1.now⟩,by omega⟩,by have:=hf.now;dsimp only;omega,by have:=hf.L;dsimp only;omega⟩
 rcases oT hx with hx|rfl
 ·exact h1.s x hx
 ·exact hs B (h1.s _ (dT hi))
theorem po_dn {f:Fd} {i:Nat}:PO f {f with dn:=f.dn.set i true} {f.er with dn:=f.dn.set i true} 0:=by
 refine⟨rfl,rfl,fun c hc hf=> ?_⟩
 obtain⟨B,h1,h2⟩:=hf.i
 exact⟨⟨hf.w.ps,by dsimp only;rw[List.length_set];exact hf.w.dn,hf.w.ss,hf.w.a,hf.w.L⟩,⟨B,⟨h1.ss,by show(f.dn.set i true).length=f.ss.length;rw[List.length_set];exact h1.dn,h1.s,h1.fly,h1.now⟩,by omega⟩,by have:=hf.now;dsimp only;omega,by have:=hf.L;dsimp only;omega⟩
theorem FJ {n:Int} (h:0≤n∧n≤2000):vQ (zJ n):=by
 refine⟨?_,?_,?_⟩<;>simp only[zJ]
 ·exact Int.tmod_nonneg _ h.1
 ·have:=Int.tmod_lt_of_pos n (show(0:Int)<16 by decide);omega
 ·rw[Int.tdiv_eq_ediv_of_nonneg h.1];omega
section
variable {f g:Fd} {s:Sg}
theorem alc (hw:FW f) (h0:0<f.ps.length) (hk:s.k=0) (hc:g.er=cS f.er ((s.x.tmod (f.ps.length:Int)+(f.ps.length:Int)).tmod (f.ps.length:Int))∧g.ps=f.ps∧g.a≤g.L.length∧g.L.length≤f.L.length+1000):PO f g (cU f.er s) 10:=by
 have hp:=hw.ps
 have m:=gk s.x f.ps.length (by omega)
 refine((wj ⟨m.1,by omega⟩ hc).le (by omega)).eq ?_
 unfold cU
 dsimp only
 rw[if_pos hk,show(f.er.ss.length:Int)=(f.ps.length:Int) from by show(f.ss.length:Int)=_;omega]
 rfl
theorem ak8 (h1:1≤s.k) (h2:s.k≤6) (h:PO f g (gP f.er s) 1):PO f g (cU f.er s) 10:=by
 refine(h.le (by omega)).eq ?_
 unfold cU
 dsimp only
 rw[if_neg (by omega),if_pos ⟨h1,h2⟩]
theorem alb {b:Bool} {i:Int} (hi:i=(s.x.tmod (f.ps.length:Int)+(f.ps.length:Int)).tmod (f.ps.length:Int)) (hw:FW f) (h0:0<f.ps.length) (hk:s.k=7) (hn:0≤f.n∧f.n≤1000) (hd:f.dn[i.toNat]?=some b) (hb:¬b=true):
  PO f {f with ss:=f.ss.set i.toNat (kq (aI f.ss i.toNat) (zJ (f.n+1))),n:=f.n+1} (cU f.er s) 10:=by
 have hp:=hw.ps
 have m:=gk s.x f.ps.length (by omega)
 rw[←hi]at m
 refine((uu (by omega) fun B h=>ad7 h (FJ (by omega))).le (by omega)).eq ?_
 have e:b=false:=by simpa using hb
 subst e
 unfold cU eF
 dsimp only
 rw[show(f.er.ss.length:Int)=(f.ps.length:Int) from by show(f.ss.length:Int)=_;omega,←hi,if_neg (by omega),if_neg (by omega),if_pos hk,if_pos (show f.er.dn[i.toNat]?=some false from hd)]
 rfl
theorem ajn {b:Bool} {i:Int} (hi:i=(s.x.tmod (f.ps.length:Int)+(f.ps.length:Int)).tmod (f.ps.length:Int)) (hw:FW f) (hk:s.k=7) (hd:f.dn[i.toNat]?=some b) (hb:¬¬b=true):PO f f (cU f.er s) 10:=by
 have hp:=hw.ps
 refine(PO.refl (by omega)).eq ?_
 have e:b=true:=by simpa using hb
 subst e
 unfold cU eF
 dsimp only
 rw[show(f.er.ss.length:Int)=(f.ps.length:Int) from by show(f.ss.length:Int)=_;omega,←hi,if_neg (by omega),if_neg (by omega),if_pos hk,if_neg (show¬f.er.dn[i.toNat]?=some false from fun q=>by have q2:f.dn[i.toNat]?=some false:=q;rw[hd]at q2;cases q2)]
theorem ala {i j:Int} (hi:i=(s.x.tmod (f.ps.length:Int)+(f.ps.length:Int)).tmod (f.ps.length:Int)) (hj:j=(s.y.tmod (f.ps.length:Int)+(f.ps.length:Int)).tmod (f.ps.length:Int)) (hw:FW f) (h0:0<f.ps.length) (hk:s.k=8):
  PO f {f with ss:=f.ss.set i.toNat (gY (aI f.ss i.toNat) j)} (cU f.er s) 10:=by
 have hp:=hw.ps
 have m:=gk s.x f.ps.length (by omega)
 rw[←hi]at m
 refine((uu (m:=f.n) (by omega) fun B h=>VV h).le (by omega)).eq ?_
 unfold cU eF
 dsimp only
 rw[show(f.er.ss.length:Int)=(f.ps.length:Int) from by show(f.ss.length:Int)=_;omega,←hi,←hj,if_neg (by omega),if_neg (by omega),if_neg (by omega),if_pos hk]
 rfl
theorem ak9 {i:Int} (hi:i=(s.x.tmod (f.ps.length:Int)+(f.ps.length:Int)).tmod (f.ps.length:Int)) (hw:FW f) (h0:0<f.ps.length) (hk:s.k=9):
  PO f {f with ss:=f.ss.set i.toNat (hU (aI f.ss i.toNat))} (cU f.er s) 10:=by
 have hp:=hw.ps
 have m:=gk s.x f.ps.length (by omega)
 rw[←hi]at m
 refine((uu (m:=f.n) (by omega) fun B h=>YB h).le (by omega)).eq ?_
 unfold cU eF
 dsimp only
 rw[show(f.er.ss.length:Int)=(f.ps.length:Int) from by show(f.ss.length:Int)=_;omega,←hi,if_neg (by omega),if_neg (by omega),if_neg (by omega),if_neg (by omega),if_pos hk]
 rfl
theorem ajq {i:Int} (hi:i=(s.x.tmod (f.ps.length:Int)+(f.ps.length:Int)).tmod (f.ps.length:Int)) (hw:FW f) (h0:0<f.ps.length) (hk:s.k=10):
  PO f {f with ss:=f.ss.set i.toNat (fR (aI f.ss i.toNat))} (cU f.er s) 10:=by
 have hp:=hw.ps
 have m:=gk s.x f.ps.length (by omega)
 rw[←hi]at m
 refine((uu (m:=f.n) (by omega) fun B h=>PN h).le (by omega)).eq ?_
 unfold cU eF
 dsimp only
 rw[show(f.er.ss.length:Int)=(f.ps.length:Int) from by show(f.ss.length:Int)=_;omega,←hi,if_neg (by omega),if_neg (by omega),if_neg (by omega),if_neg (by omega),if_neg (by omega),if_pos hk]
 rfl
theorem ajp {i:Int} (hi:i=(s.x.tmod (f.ps.length:Int)+(f.ps.length:Int)).tmod (f.ps.length:Int)) (hw:FW f) (hk:s.k=11):PO f {f with dn:=f.dn.set i.toNat true} (cU f.er s) 10:=by
 have hp:=hw.ps
 refine(po_dn.le (by omega)).eq ?_
 unfold cU eF
 dsimp only
 rw[show(f.er.ss.length:Int)=(f.ps.length:Int) from by show(f.ss.length:Int)=_;omega,←hi,if_neg (by omega),if_neg (by omega),if_neg (by omega),if_neg (by omega),if_neg (by omega),if_neg (by omega),if_pos hk]
 rfl
theorem ajo (hw:FW f) (hk:s.k=12) (h:PO f g (jm (10 - 0:Int).toNat ((s.x.tmod (f.ps.length:Int)+(f.ps.length:Int)).tmod (f.ps.length:Int)) f.er) (10 - 0)):PO f g (cU f.er s) 10:=by
 have hp:=hw.ps
 refine(h.le (by omega)).eq ?_
 unfold cU eF
 dsimp only
 rw[show(f.er.ss.length:Int)=(f.ps.length:Int) from by show(f.ss.length:Int)=_;omega,if_neg (by omega),if_neg (by omega),if_neg (by omega),if_neg (by omega),if_neg (by omega),if_neg (by omega),if_neg (by omega),if_pos hk]
 rfl
theorem ajm (hk:¬s.k=0∧¬(1≤s.k∧s.k≤12)):PO f f (cU f.er s) 10:=by
 refine(PO.refl (by omega)).eq ?_
 unfold cU
 dsimp only
 rw[if_neg (by omega),if_neg (by omega),if_neg (by omega),if_neg (by omega),if_neg (by omega),if_neg (by omega),if_neg (by omega),if_neg (by omega)]
end
def bi (n:Nat):List Int:=(List.range n).map Int.ofNat
theorem gH {n:Nat}:(bi n).length=n:=by simp[bi]
theorem so {n:Nat}:bi (n+1)=bi n++[(n:Int)]:=by simp[bi,List.range_succ]
theorem jP {n:Nat} (h:n≤8):NL (bi n):=by
 refine⟨?_,fun x hx=> ?_⟩
 ·unfold bi
  exact List.Pairwise.map _ (fun a b hab e=>hab (Int.ofNat.inj e)) List.nodup_range
 ·obtain⟨y,hy,rfl⟩:=List.mem_map.1 hx
  have:=List.mem_range.1 hy
  exact⟨Int.natCast_nonneg y,show(y:Int)<8 by omega⟩
theorem pV {n:Nat} (h:0<n):¬bi n=[]:=fun e=>by
 have:=congrArg List.length e
 rw[gH]at this
 simp at this;omega
def dC (l all:List Int) (n:Nat):List St:=(bi n).map fun j=>gm (eE j l) all
theorem fE {l all:List Int} {n:Nat}:(dC l all n).length=n:=by simp[dC,gH]
theorem Ho {l all:List Int} {n:Nat}:dC l all (n+1)=dC l all n++[gm (eE n l) all]:=by simp[dC,so]
def fh (k m:Nat):Fx:=⟨dC (bi k) (bi (k+m)) (k+m),List.replicate (k+m) false,[],0,0⟩
theorem Yi {l all:List Int} {n:Nat} (hl:NL l) (hne:¬l=[]) (ha:NL all) (hn:n≤8):∀x∈dC l all n,SB 1 x:=fun x hx=>by
 obtain⟨j,hj,rfl⟩:=List.mem_map.1 hx
 exact Yg (Km ((jP hn).2 j hj) hl hne) ha
theorem Po {f:Fd} {k m:Nat} (hk:0<k) (hkm:k+m≤8) (hp:f.ps.length=k+m) (hs:f.ss=dC (bi k) (bi (k+m)) (k+m)) (hd:f.dn=List.replicate (k+m) false) (hL:f.L=[]) (ha:f.a=0) (hn:f.now=0) (hc:f.n=0):f.er=fh k m∧FC 800000 f:=by
 have e:f.er=fh k m:=by
  unfold Fd.er fh
  rw[hs,hd,hL,ha,hn,hc];rfl
 refine⟨e,⟨⟨by rw[hp,hs,fE],by rw[hd,hs,fE,List.length_replicate],by rw[hs,fE];exact hkm,by rw[ha];exact Nat.zero_le _,by rw[hL];exact Nat.zero_le _⟩,⟨1,?_,by decide⟩,by rw[hn];decide,by rw[hL];decide⟩⟩
 rw[e]
 exact⟨by show(dC _ _ _).length≤8;rw[fE];exact hkm,by show(List.replicate _ _).length=(dC _ _ _).length;rw[fE,List.length_replicate],Yi (jP (by omega)) (pV hk) (jP hkm) hkm,fun y hy=>(by cases hy),Int.le_refl 0⟩
theorem EV {ss:List St} {s:St} {n:Nat} (h:n=ss.length):aI (ss++[s]) n=s:=by
 subst h
 unfold aI
 simp
theorem We {ss:List St} {s t:St} {n:Nat} (h:n=ss.length):(ss++[s]).set n t=ss++[t]:=by
 subst h
 simp
section
variable {k m i:Int} {l b:List Int} {f:Fd} {z:Value}
theorem aeV (y5:0≤i) (y8:b=bi i.toNat):(b.length:Int)=i:=by rw[y8,gH];omega
theorem WE (y5:0≤i) (y1:1≤k) (y7:l=bi (min i k).toNat):(l.length:Int)=min i k:=by rw[y7,gH];omega
theorem On (y5:0≤i) (y8:b=bi i.toNat):b++[i]=bi (i+1).toNat:=by
 rw[show(i+1).toNat=i.toNat+1 by omega,so,←y8,show((i.toNat:Nat):Int)=i by omega]
theorem ajB (y5:0≤i) (h:i<k) (y7:l=bi (min i k).toNat):l++[i]=bi (min (i+1) k).toNat:=by
 rw[show min (i+1) k=i+1 by omega]
 rw[show min i k=i by omega]at y7
 exact On y5 y7
theorem ajA (y5:0≤i) (y1:1≤k) (h:¬i<k) (y7:l=bi (min i k).toNat):l=bi (min (i+1) k).toNat:=by
 rw[show min (i+1) k=k by omega]
 rwa[show min i k=k by omega]at y7
theorem aeW (y1:1≤k) (y2:k≤4) (y3:0≤m) (y4:m≤2) (y5:0≤i) (y6:i≤k+m) (h:¬i<k+m) (y7:l=bi (min i k).toNat) (y8:b=bi i.toNat):l=bi k.toNat∧b=bi (k+m).toNat:=by
 have e:i=k+m:=by omega
 rw[show min i k=k by omega]at y7
 exact⟨y7,by rw[y8,e]⟩
theorem Bs (y5:0≤i) (y10:f.ss=dC l b i.toNat):(f.ss.length:Int)=i:=by rw[y10,fE];omega
theorem ajS (y5:0≤i) (y11:f.dn=List.replicate i.toNat false):(f.dn.length:Int)=i:=by rw[y11,List.length_replicate];omega
theorem alq (y8:b=bi (k+m).toNat):b.length=(k+m).toNat:=by rw[y8,gH]
theorem KU (y1:1≤k) (y2:k≤4) (y3:0≤m) (y4:m≤2) (y5:0≤i) (h:i<k+m) (y7:l=bi k.toNat):NL l∧¬l=[]∧(0≤i∧i<8):=by
 subst y7
 exact⟨jP (by omega),pV (by omega),by omega,by omega⟩
theorem Yf (y1:1≤k) (y2:k≤4) (y3:0≤m) (y4:m≤2) (y5:0≤i) (h:i<k+m) (y7:l=bi k.toNat) (y8:b=bi (k+m).toNat) (y9:(f.ps.length:Int)=i) (y10:f.ss=dC l b i.toNat):
  (f.ps++[z])[i.toNat]?=some z∧i.toNat<(f.ss++[eE i l]).length∧SI (aI (f.ss++[eE i l]) i.toNat)∧b.length≤1000:=by
 have ls:=Bs y5 y10
 have n:=KU y1 y2 y3 y4 y5 h y7
 have e:i.toNat=f.ps.length:=by omega
 refine⟨by rw[e];simp,by rw[al2,List.length_singleton];omega,?_,by rw[y8,gH];omega⟩
 rw[EV (by omega)]
 exact(Km n.2.2 n.1 n.2.1).si
theorem Ye (y1:1≤k) (y2:k≤4) (y3:0≤m) (y4:m≤2) (y5:0≤i) (h:i<k+m) (y7:l=bi k.toNat) (y8:b=bi (k+m).toNat) (y9:(f.ps.length:Int)=i) (y10:f.ss=dC l b i.toNat) (y11:f.dn=List.replicate i.toNat false) (y12:f.L=[]) (y13:f.a=0) (y14:f.now=0) (y15:f.n=0):
  1≤k∧k≤4∧0≤m∧m≤2∧0≤i+1∧i+1≤k+m∧l=bi k.toNat∧b=bi (k+m).toNat∧((f.ps++[z]).length:Int)=i+1∧(f.ss++[eE i l]).set i.toNat (gm (aI (f.ss++[eE i l]) i.toNat) b)=dC l b (i+1).toNat∧f.dn++[false]=List.replicate (i+1).toNat false∧f.L=[]∧f.a=0∧f.now=0∧f.n=0:=by
 have ls:=Bs y5 y10
 refine⟨y1,y2,y3,y4,by omega,by omega,y7,y8,by rw[al2,List.length_singleton];omega,?_,?_,y12,y13,y14,y15⟩
 ·rw[EV (by omega),We (by omega),show(i+1).toNat=i.toNat+1 by omega,Ho,←y10,show((i.toNat:Nat):Int)=i by omega]
 ·rw[show(i+1).toNat=i.toNat+1 by omega,List.replicate_succ',←y11]
theorem afx (y1:1≤k) (y2:k≤4) (y3:0≤m) (y4:m≤2) (y5:0≤i) (y6:i≤k+m) (h:¬i<k+m) (y7:l=bi k.toNat) (y8:b=bi (k+m).toNat) (y9:(f.ps.length:Int)=i) (y10:f.ss=dC l b i.toNat) (y11:f.dn=List.replicate i.toNat false) (y12:f.L=[]) (y13:f.a=0) (y14:f.now=0) (y15:f.n=0):
  f.er=fh k.toNat m.toNat∧FC 800000 f:=by
 have e:i.toNat=k.toNat+m.toNat:=by omega
 have e2:(k+m).toNat=k.toNat+m.toNat:=by omega
 rw[e2]at y8
 refine Po (by omega) (by omega) (by omega) (by rw[y10,y7,y8,e]) (by rw[y11,e]) y12 y13 y14 y15
end
end Go.Proofs.Tryz
namespace Go.Proofs.Tryz
open Go Go.RowKit Go.Sy
open Go.Eng hiding aj
set_option maxRecDepth 1000000
set_option linter.unusedVariables false
set_option maxHeartbeats 4000000
attribute [local irreducible] aq
noncomputable def bd_l_nms':NV (df [] [] [] 0xfe69374c327489f6060d918f89571d2f23a7dca3eaa0bc788ecdda542a1d4ccc28120a24cad7defa0867cfd0f0dcde19bab0b03365ea011d880dc4c):=⟨_,by conv=>rhs;reduce⟩
noncomputable abbrev CU:XC:=bd_l_nms'.1
noncomputable def bd_l_sts':NV (df [] [] [] 0x9fdb9e738af34f3acb9dfa2f8611f9b75ed041883b241a7f8b5c09c2bde71dd59323d925a375fcb7640580d5a34ba5453faadc17719af694c452981623839ca618fc58010212a35dd5e896c553ed5929a7c8a19e49):=⟨_,by conv=>rhs;reduce⟩
noncomputable abbrev CS:XC:=bd_l_sts'.1
noncomputable def ft_madeG':NV (fun e0 e1 e2 e3 b0 b1=>aB [e0,e1,e2,e3] [] [b0,b1] 0x93a9d594af76211bd89cfba9e9c715b73d6158f906c13e302866a4ae686b870edd6954aa046f0a3d32d94a07fb0e08910b310171b6a63ec40527220b):=⟨_,by conv=>rhs;reduce⟩
noncomputable abbrev Qq:XF:=ft_madeG'.1 (eB 52 2 am) (eC 36 1 Ja) (eC 4 1 zR) (eC 76 33 Jb) CU CS
theorem DZ:aK Tryz.prog 9 Qq=true:=by kernel_rfl
structure GO where
 k:Int
 m:Int
 lh:Value
 l:List Int
 bh:Value
 b:List Int
 f:Fd
 i:Int
structure aaV where
 f:Fd
structure GQ where
 k:Int
 m:Int
 l:List Int
 b:List Int
 i:Int
structure aaX where
 l:List Int
 b:List Int
noncomputable def Bz:bN:=cq (cq bT 1 (fun p:GO=>((.cons 9 (.sy (.int 0 p.i)) (.cons 7 (.sy (.imm p.bh 2 Int p.b am)) (.cons 6 (.sy (.imm p.lh 2 Int p.l am)) (.cons 5 (.ptr 1 0) (.cons 1 (.sy (.int 0 p.m)) (.cons 0 (.sy (.int 0 p.k)) .nil)))))),(gp p.f),5)) (fun p=>1≤p.k∧p.k≤4∧0≤p.m∧p.m≤2∧0≤p.i∧p.i≤p.k+p.m∧p.l=bi p.k.toNat∧p.b=bi (p.k+p.m).toNat∧(p.f.ps.length:Int)=p.i∧p.f.ss=dC p.l p.b p.i.toNat∧p.f.dn=List.replicate p.i.toNat false∧p.f.L=[]∧p.f.a=0∧p.f.now=0∧p.f.n=0) (fun p K=>aj fun r:aaV=>iP (r.f.er=fh p.k.toNat p.m.toNat∧FC 800000 r.f) (K 4 (.cons 5 (.ptr 1 0) .nil) (gp r.f) 5) true)) 0 (fun p:GQ=>((.cons 8 (.sy (.int 0 p.i)) (.cons 7 (.sy (.prow 3 p.b.length)) (.cons 6 (.sy (.prow 2 p.l.length)) (.cons 5 (.ptr 1 0) (.cons 1 (.sy (.int 0 p.m)) (.cons 0 (.sy (.int 0 p.k)) .nil)))))),(.node (.node (.node .leaf (some (aE p.b)) .leaf) (some (o_N)) .leaf) (some (.opq (List Value×List St) (([]:List Value),([]:List St)) bJ)) (.node .leaf (some (aE p.l)) .leaf)),4)) (fun p=>1≤p.k∧p.k≤4∧0≤p.m∧p.m≤2∧0≤p.i∧p.i≤p.k+p.m∧p.l=bi (min p.i p.k).toNat∧p.b=bi p.i.toNat) (fun p K=>aj fun r:aaX=>iP (r.l=bi p.k.toNat∧r.b=bi (p.k+p.m).toNat) (K 2 (.cons 7 (.sy (.prow 3 r.b.length)) (.cons 6 (.sy (.prow 2 r.l.length)) (.cons 5 (.ptr 1 0) (.cons 1 (.sy (.int 0 p.m)) (.cons 0 (.sy (.int 0 p.k)) .nil))))) (.node (.node (.node .leaf (some (aE r.b)) .leaf) (some (o_N)) .leaf) (some (.opq (List Value×List St) (([]:List Value),([]:List St)) bJ)) (.node .leaf (some (aE r.l)) .leaf)) 4) true)
theorem PF:bj Tryz.prog 67 1 Bz true 0 CU:=lL (nat:=mU) (fun p:GQ=>(p.k+p.m - p.i).toNat) cy (fun _ _ _ _=>rfl) fun p K hpre hK=>by
 dsimp only at hpre hK ⊢
 obtain⟨y1,y2,y3,y4,y5,y6,y7,y8⟩:=hpre
 have lb_:=aeV y5 y8
 have ll_:=WE y5 y1 y7
 have ys {g:Prop} (h:g:=by first|(first|(simp[bR];omega)|(unfold bR;simp only[al2,al3,al5];omega);done)|fail):g:=h
 have yp {g:Prop} (h:g:=by first|(exact aeW y1 y2 y3 y4 y5 y6 (by omega) y7 y8)|fail):g:=h
 have yb {g:Prop} (h:g:=by first|(first|exact⟨y1,y2,y3,y4,by omega,by omega,ajB y5 (by omega) y7,On y5 y8⟩|exact⟨y1,y2,y3,y4,by omega,by omega,ajA y5 y1 (by omega) y7,On y5 y8⟩)|fail):g:=h
 have yq {g:Prop} (h:g:=by first|(refine wX [_] (by first|exact sd|exact ys) ?_;exact wz)|fail):g:=h
 exact wz
theorem PD:bj Tryz.prog 67 1 Bz true 1 CS:=lL (nat:=mU) (fun p:GO=>(p.k+p.m - p.i).toNat) cy (fun _ _ _ _=>rfl) fun p K hpre hK=>by
 dsimp only at hpre hK ⊢
 obtain⟨y1,y2,y3,y4,y5,y6,y7,y8,y9,y10,y11,y12,y13,y14,y15⟩:=hpre
 have ls_:=Bs y5 y10
 have ld_:=ajS y5 y11
 have lb_:=alq y8
 have ys {g:Prop} (h:g:=by first|(first|(simp[bR];omega)|(unfold bR;simp only[al2,al3,al5];omega);done)|(exact⟨⟨.inr (.inr (.inr ⟨_,_,rfl,rfl,Iff.rfl⟩)),trivial⟩,trivial⟩)|fail):g:=h
 have yg {g:Prop} (h:g:=by first|(exact KU y1 y2 y3 y4 y5 (by omega) y7)|(exact Yf y1 y2 y3 y4 y5 (by omega) y7 y8 y9 y10)|fail):g:=h
 have yp {g:Prop} (h:g:=by first|(exact afx y1 y2 y3 y4 y5 y6 (by omega) y7 y8 y9 y10 y11 y12 y13 y14 y15)|fail):g:=h
 have yb {g:Prop} (h:g:=by first|(exact Ye y1 y2 y3 y4 y5 (by omega) y7 y8 y9 y10 y11 y12 y13 y14 y15)|fail):g:=h
 have yx {g:Prop} (h:g:=by first|(exact wW hK fun r hz=>by(try dsimp only[oL,oN]at hz);exact hz)|fail):g:=h
 have yq {g:Prop} (h:g:=by first|(refine ag9 (.mk ..) (h:= ?_);dsimp only[lO];exact wo)|(refine akb (.mk _ _ p.i.toNat ..) (h:= ?_);dsimp only[nY];exact wo)|(refine wX [_] (by first|exact sd|exact ys) ?_;exact wz)|(exact jM (.mk _ _ _ _ _ _ (.mk ..) ..))|fail):g:=h
 exact wz
structure abC where
 k:Int
 m:Int
structure aaQ where
 f:Fd
theorem OK:dM Tryz.prog 9 1 (aO (fun p:abC=>([.ptr 0 0,.sy (.int 0 p.k),.sy (.int 0 p.m)],(.node .leaf (some (.opq (List Value×List St) (([]:List Value),([]:List St)) bJ)) .leaf),1)) (fun p=>1≤p.k∧p.k≤4∧0≤p.m∧p.m≤2) (fun p K=>aj fun r:aaQ=>iP (r.f.er=fh p.k.toNat p.m.toNat∧FC 800000 r.f) (K (.ptr 1 0) (gp r.f) 5) true)):=KR (nat:=mU) DZ (fun b j x h=>(cW PF (fun h=>(cW PD (fun h=>(by cases h)) h)) h)) fun p K hpre hK=>by
 dsimp only at hpre hK ⊢
 obtain⟨y1,y2,y3,y4⟩:=hpre
 have nnr:=trivial
 have yg {g:Prop} (h:g:=by first|(exact⟨by omega,by omega,by omega,by omega,by omega,by omega,by rw[Int.min_eq_left (by omega)];rfl,rfl⟩)|(exact⟨by omega,by omega,by omega,by omega,by omega,by omega,(hi).1,(hi).2,rfl,rfl,rfl,rfl,rfl,rfl,rfl⟩)|fail):g:=h
 have yp {g:Prop} (h:g:=by first|(exact hi)|fail):g:=h
 have yq {g:Prop} (h:g:=by first|(refine cb (.mk _ _ [] [] ..) (h:= ?_);exact wo)|(refine cb (.mk _ _ _ _ _ _ (.mk [] [] [] _ _ _ _ _ [] ..) ..) (h:= ?_);exact wo)|fail):g:=h
 exact wz
noncomputable def ya:NN:=jV mU OK [(0,20),(1,20)]
structure alW (a b:St):Prop where
 same:0<a.N→0<b.N→a.N=b.N→a.m=b.m
 beg:((bU a).take (cL a).toNat).take (min ((bU a).take (cL a).toNat).length ((bU b).take (cL b).toNat).length)=((bU b).take (cL b).toNat).take (min ((bU a).take (cL a).toNat).length ((bU b).take (cL b).toNat).length)
structure oy (f:Fx):Prop where
 com:∀i,i<f.ss.length→0≤cL (aI f.ss i)∧cL (aI f.ss i)≤((bU (aI f.ss i)).length:Int)∧(bU (aI f.ss i)).length≤400
 pair:∀i k,i<f.ss.length→k<i→alW (aI f.ss i) (aI f.ss k)
theorem zQ {f:Fd} {k:Int} {i:Nat} (h:FC k f) (hi:i<f.ss.length):SI (aI f.ss i):=by
 obtain⟨B,h1,_⟩:=h.i
 exact(h1.s _ (dT (ss:=f.ss) hi)).si
theorem aag {f:Fd} {l m:List Ke} {a b:Int} {i k:Nat} (hR:oy f.er) (hi:i<f.ss.length) (hk:k<i) (h1:l=bU (aI f.ss i)) (h2:m=bU (aI f.ss k)) (h3:a=cL (aI f.ss i)) (h4:b=cL (aI f.ss k)):
  ((l.drop 0).take (a.toNat - 0)).take (min ((l.drop 0).take (a.toNat - 0)).length ((m.drop 0).take (b.toNat - 0)).length)=((m.drop 0).take (b.toNat - 0)).take (min ((l.drop 0).take (a.toNat - 0)).length ((m.drop 0).take (b.toNat - 0)).length)∧((l.drop 0).take (a.toNat - 0)).length≤400∧((m.drop 0).take (b.toNat - 0)).length≤400:=by
 subst h1 h2 h3 h4
 have q1:(bU (aI f.ss i)).length≤400:=(hR.com i hi).2.2
 have q2:(bU (aI f.ss k)).length≤400:=(hR.com k (by show k<f.ss.length;omega)).2.2
 simp only[List.drop_zero,Nat.sub_zero]
 exact⟨(hR.pair i k hi hk).beg,by rw[ami];omega,by rw[ami];omega⟩
theorem ale {s:St} (h:SI s) (h0:0<s.N):s.m.length≤8:=ah (h.1 h0).1.r.nl
noncomputable def ft_beginG':NV (aB [] [] [] 0x2d6c066209c92a4487a9bfc30048d76314c3072ad21911f76d5e1):=⟨_,by conv=>rhs;reduce⟩
noncomputable abbrev Md:XF:=ft_beginG'.1
theorem Ck:aK Tryz.prog 31 Md=true:=by kernel_rfl
structure SK where
 h:Value
 l:List Ke
 g:Value
 m:List Ke
theorem KJ:aA Tryz.prog 31 0 (aO (fun p:SK=>([.sy (.imm p.h 18 Ke p.l aD),.sy (.imm p.g 18 Ke p.m aD)],.leaf,0)) (fun p=>p.l.take (min p.l.length p.m.length)=p.m.take (min p.l.length p.m.length)∧p.l.length≤400∧p.m.length≤400) (fun p K=>K (.bool true) .leaf 0)):=nE (nat:=ya) Ck fun p K hpre hK=>by
 dsimp only at hpre hK ⊢
 obtain⟨g1,g2,g3⟩:=hpre
 have ys {g:Prop} (h:g:=by first|(first|omega|(simp only[ami,amr];omega);done)|fail):g:=h
 have yg {g:Prop} (h:g:=by first|(exact⟨by simp only[show Int.toNat 0=0 from rfl,List.drop_zero,Nat.sub_zero];rw[show(min (p.l.length:Int) (p.m.length:Int)).toNat=min p.l.length p.m.length by omega];exact g1,by first|omega|(simp only[ami,amr];omega)⟩)|fail):g:=h
 exact wz
noncomputable def kK:NN:=bY ya KJ [(0,23),(1,23)]
noncomputable def bd_l_rk':NV (df [] [] [] 0xd83039b1320fde758c249281944b952ece7cdd787d06b003c6f091d44079bcc9193aa728b51e20f3661ad2b1ee80e3bb1cd0ce2b957f49a1b6479d783d968a2337e951beda18772f65d69481e99686ff7bb9a72c44633b3632c4e5cc85cff678823e606057502b8aec6c38078e3e7835cc4379c91fe1abf77f5f62d8def4f19f80f475b68bf868edb56c6):=⟨_,by conv=>rhs;reduce⟩
noncomputable abbrev Gu:XC:=bd_l_rk'.1
noncomputable def bd_l_ri':NV (fun b0=>df [] [] [b0] 0xdb5447cece649159874c1f542c01a63ecc577a0a6c218f3dd5c6aaf2eb33ab954c54723668758925f1d667917f28b5c27ed05cf473aa83b0b6b40af6d9561774):=⟨_,by conv=>rhs;reduce⟩
noncomputable abbrev Gv:XC:=bd_l_ri'.1 Gu
noncomputable def ft_rightF':NV (fun b0=>aB [] [] [b0] 0x42284888e47349369c6be29a8a08196e1):=⟨_,by conv=>rhs;reduce⟩
noncomputable abbrev LN:XF:=ft_rightF'.1 Gv
theorem Cf:aK Tryz.prog 11 LN=true:=by kernel_rfl
structure Nv where
 f:Fd
 i:Int
structure Nu where
 f:Fd
 i:Int
 ha:Value
 lh:Value
 l:List Ke
 k:Int
noncomputable def yE:bN:=cq (cq bT 0 (fun p:Nv=>((.cons 3 (.sy (.int 0 p.i)) (.cons 0 (.ptr 1 0) .nil)),(gp p.f),5)) (fun p=>FC 0 p.f∧oy p.f.er∧0≤p.i∧p.i≤(p.f.ps.length:Int)) (fun p K=>K 2 .nil (gp p.f) 5)) 1 (fun p:Nu=>((.cons 6 (.sy (.int 0 p.k)) (.cons 5 (.sy (.imm p.lh 18 Ke p.l aD)) (.cons 4 (hv p.ha) (.cons 3 (.sy (.int 0 p.i)) (.cons 0 (.ptr 1 0) .nil))))),(gp p.f),5)) (fun p=>FC 0 p.f∧oy p.f.er∧0≤p.i∧p.i<(p.f.ps.length:Int)∧p.f.ps[p.i.toNat]?=some p.ha∧p.l=bU (aI p.f.ss p.i.toNat)∧0≤p.k∧p.k≤p.i) (fun p K=>K 4 (.cons 3 (.sy (.int 0 p.i)) (.cons 0 (.ptr 1 0) .nil)) (gp p.f) 5)
theorem Yr:bj Tryz.prog 81 2 yE true 1 Gu:=lL (nat:=kK) (fun p:Nu=>(p.i - p.k).toNat) cy (fun _ _ _ _=>rfl) fun p K hpre hK=>by
 dsimp only at hpre hK ⊢
 obtain⟨hf,hR,y1,y2,y3,y4,y5,y6⟩:=hpre
 have hw:=hf.w
 have hwp:=hw.ps
 have hw8:=hw.ss
 have q1:0≤cL (aI p.f.ss p.i.toNat)∧cL (aI p.f.ss p.i.toNat)≤((bU (aI p.f.ss p.i.toNat)).length:Int)∧(bU (aI p.f.ss p.i.toNat)).length≤400:=hR.com p.i.toNat (by show _<p.f.ss.length;omega)
 have e1_:=congrArg List.length y4
 have hsi:=zQ hf (i:=p.i.toNat) (by omega)
 have nnq:=trivial
 have ys {g:Prop} (h:g:=by first|(have q2:0≤cL (aI p.f.ss p.k.toNat)∧cL (aI p.f.ss p.k.toNat)≤((bU (aI p.f.ss p.k.toNat)).length:Int)∧(bU (aI p.f.ss p.k.toNat)).length≤400:=hR.com p.k.toNat (by show _<p.f.ss.length;omega);have e2_:=congrArg List.length (by assumption:_=bU (aI p.f.ss p.k.toNat));omega)|fail):g:=h
 have yd {g:Prop} (h:g:=by first|(exfalso;first|omega|(have s_:(aI p.f.ss p.i.toNat).m=(aI p.f.ss p.k.toNat).m:=(hR.pair p.i.toNat p.k.toNat (by show _<p.f.ss.length;omega) (by omega)).same (by assumption) (by assumption) (by show(aI p.f.ss p.i.toNat).N=(aI p.f.ss p.k.toNat).N;omega);exact hc ((And.right (by assumption:_=(aI p.f.ss p.i.toNat).N∧_=(aI p.f.ss p.i.toNat).m)).trans (s_.trans (And.right (by assumption:_=(aI p.f.ss p.k.toNat).N∧_=(aI p.f.ss p.k.toNat).m)).symm))))|fail):g:=h
 have yg {g:Prop} (h:g:=by first|(first|exact⟨y3,by omega,hsi⟩|exact⟨by assumption,by omega,zQ hf (by omega)⟩)|(refine Nat.le_trans (Nat.le_of_eq (congrArg List.length (And.right (by assumption:_=(aI p.f.ss p.i.toNat).N∧_=(aI p.f.ss p.i.toNat).m)))) (Nat.le_trans (ale hsi (by first|assumption|exact(by assumption:_↔0<(aI p.f.ss p.i.toNat).N).1 (by assumption))) (show 8≤1000000 by decide)))|(exact aag (i:=p.i.toNat) (k:=p.k.toNat) hR (by omega) (by omega) y4 (by assumption) (by assumption) (by assumption))|fail):g:=h
 have yb {g:Prop} (h:g:=by first|(exact⟨hf,hR,y1,y2,y3,y4,by omega,by omega⟩)|fail):g:=h
 have yq {g:Prop} (h:g:=by first|(refine Jf (.mk _ _ p.k.toNat ..) (h:= ?_);dsimp only[jr,pZ,vb];exact wo)|(refine UJ (.mk _ _ p.i.toNat ..) (h:= ?_);dsimp only[lv,uw,BL];exact wo)|(refine UJ (.mk _ _ p.k.toNat ..) (h:= ?_);dsimp only[lv,uw,BL];exact wo)|(refine UI (.mk _ _ p.i.toNat ..) (h:= ?_);dsimp only[ll,uv,BJ];exact wo)|(refine UI (.mk _ _ p.k.toNat ..) (h:= ?_);dsimp only[ll,uv,BJ];exact wo)|(refine zT (.mk _ _ p.i.toNat ..) (h:= ?_);dsimp only[ix,nX,qx];exact wo)|(refine zT (.mk _ _ p.k.toNat ..) (h:= ?_);dsimp only[ix,nX,qx];exact wo)|fail):g:=h
 exact wz
theorem Ys:bj Tryz.prog 81 2 yE true 0 Gv:=lL (nat:=kK) (fun p:Nv=>((p.f.ps.length:Int) - p.i).toNat) (dB Yr) (fun _ _ _ _=>rfl) fun p K hpre hK=>by
 dsimp only at hpre hK ⊢
 obtain⟨hf,hR,y1,y2⟩:=hpre
 have hw:=hf.w
 have hwp:=hw.ps
 have hw8:=hw.ss
 have yd {g:Prop} (h:g:=by first|(exfalso;have q1:0≤cL (aI p.f.ss p.i.toNat)∧cL (aI p.f.ss p.i.toNat)≤((bU (aI p.f.ss p.i.toNat)).length:Int)∧(bU (aI p.f.ss p.i.toNat)).length≤400:=hR.com p.i.toNat (by show _<p.f.ss.length;omega);have e2_:=congrArg List.length (by assumption:_=bU (aI p.f.ss p.i.toNat));omega)|fail):g:=h
 have yg {g:Prop} (h:g:=by first|(first|exact⟨y3,by omega,hsi⟩|exact⟨by assumption,by omega,zQ hf (by omega)⟩)|(exact⟨hf,hR,by omega,by omega,by assumption,by assumption,by omega,by omega⟩)|fail):g:=h
 have yb {g:Prop} (h:g:=by first|(exact⟨hf,hR,by omega,by omega⟩)|fail):g:=h
 have yq {g:Prop} (h:g:=by first|(refine Jf (.mk _ _ p.i.toNat ..) (h:= ?_);dsimp only[jr,pZ,vb];exact wo)|(refine zT (.mk _ _ p.i.toNat ..) (h:= ?_);dsimp only[ix,nX,qx];exact wo)|fail):g:=h
 exact wz
structure Sv where
 f:Fd
theorem Kz:dM Tryz.prog 11 2 (aO (fun p:Sv=>([.ptr 0 0,.ptr 1 0],(gp p.f),5)) (fun p=>FC 0 p.f∧oy p.f.er) (fun p K=>K (.bool true) (gp p.f) 5)):=KR (nat:=kK) Cf (dB Ys) fun p K hpre hK=>by
 dsimp only at hpre hK ⊢
 obtain⟨hf,hR⟩:=hpre
 have yg {g:Prop} (h:g:=by first|(exact⟨hf,hR,by omega,by omega⟩)|fail):g:=h
 exact wz
noncomputable def iW:NN:=jV kK Kz [(0,4)]
end Go.Proofs.Tryz
namespace Go.Proofs.Tryz
open Go Go.RowKit Go.Sy
open Go.Eng hiding aj
set_option linter.unusedVariables false
structure Qu (m Q:List Int):Prop where
 nd:Q.Nodup
 sub:∀x∈Q,x∈m
 len:m.length / 2+1≤Q.length
theorem Ud:∀{l m:List Int},l.Nodup→(∀x∈l,x∈m)→l.length≤m.length
 |[],_,_,_=>Nat.zero_le _
 |x::l,m,h,hs=>by
  obtain⟨h1,h2⟩:=List.nodup_cons.1 h
  have hx:=hs x (by simp)
  have:=Ud (m:=m.erase x) h2 fun y hy=>(List.mem_erase_of_ne (fun e=>h1 (by rw[←e];exact hy))).2 (hs y (List.mem_cons_of_mem _ hy))
  rw[List.length_erase_of_mem hx]at this
  have:=List.length_pos_of_mem hx
  simp only[al3]
  omega
theorem EZ {m Q R:List Int} (hq:Qu m Q) (hr:Qu m R):∃x,x∈Q∧x∈R:=by
 by_cases h:∃x,x∈Q∧x∈R
 ·exact h
 ·have:=Ud (l:=Q++R) (m:=m) (List.nodup_append.2 ⟨hq.nd,hr.nd,fun a ha b hb e=>h ⟨a,ha,e▸hb⟩⟩) fun x hx=>(List.mem_append.1 hx).elim (hq.sub x) (hr.sub x)
  have:=hq.len
  have:=hr.len
  rw[al2]at*
  omega
theorem JY {m:List Int} (h:m.Nodup) (hn:¬m=[]):Qu m m:=⟨h,fun _ hx=>hx,by have:=List.length_pos_iff.2 hn;omega⟩
abbrev Va:=List Int×List Ke
structure VG where
 m:List Int
 base:List Ke
 H:List Ke
 S:Int→Option St
 P:Int→Option Va
 V:Int→Int→Prop
def HG (g:VG) (p c:Int):Prop:=c≤g.base.length∨∃s,g.S p=some s∧c≤s.log.length
def CG (g:VG) (c:Int):Prop:=c≤g.H.length∧∃Q,Qu g.m Q∧∀p∈Q,HG g p c
def VL (g:VG) (b p a:Int):Prop:=∀d,d<b→g.V d p→d≤a
def PR (g:VG) (b p:Int):Prop:=∃s,g.S p=some s∧b≤s.prm
def SH (g:VG) (p:Int) (n:Nat):Prop:=∃s,g.S p=some s∧s.sh=true∧s.log.length≤g.base.length+n
structure SG (g:VG) (b:Int) (v:Va):Prop where
 q:∃Q a,Qu g.m Q∧(∀p∈Q,PR g b p∧VL g b p a)∧(a=0∨(a<b∧g.P a=some v))
 l:(∃Q,Qu g.m Q∧∀p∈Q,SH g p v.2.length)∧g.base++v.2<+:g.H
def DG (g:VG) (v:Va):Prop:=∃b Q,g.P b=some v∧Qu g.m Q∧∀p∈Q,g.V b p
structure QG (g:VG) (p ro:Int) (v:Pq):Prop where
 own:v.b % 256=p
 b0:0<v.b
 pr:PR g v.b p
 nd:v.gt.Nodup
 sub:∀x∈v.gt,x∈g.m
 ro:v.b / 256≤ro
 p0:v.ph=0→g.P v.b=none∧(∀x∈v.gt,PR g v.b x∧VL g v.b x v.best∧SH g x v.qt.length)∧g.base++v.qt<+:g.H∧(v.held=none→v.best=0)∧∀w,v.held=some w→v.best<v.b∧g.P v.best=some w
 p1:¬v.ph=0→g.P v.b=some v.ch∧∀x∈v.gt,g.V v.b x
 p2:v.ph=2→Qu g.m v.gt
structure LS (g:VG) (p:Int) (s:St):Prop where
 m:s.m=g.m
 me:s.me=p
 ba:s.ba=g.base.length
 b1:g.base<+:s.log
 lg:s.log<+:g.H
 hd:g.m.head?=some p→s.log=g.H
 com:CG g s.com
 hs:∀y∈s.hs,HG g y.1 y.2
 sh:¬s.prm=0→s.sh=true
 pa:s.aa≤s.prm
 aa:¬s.aa=0→g.P s.aa=some s.av∧g.V s.aa p
 vt:∀b,g.V b p→b≤s.aa
 q:∀v,s.q=some v→QG g p s.ro v
structure VI (g:VG):Prop where
 nd:g.m.Nodup
 ne:¬g.m=[]
 hb:g.base<+:g.H
 p:∀b v,g.P b=some v→0<b∧SG g b v∧∃s,g.S (b % 256)=some s∧b / 256≤s.ro
 v:∀b p,g.V b p→0<b∧(∃v,g.P b=some v)∧∃s,g.S p=some s
 pn:∀b v,g.P b=some v→v.1.Nodup∧¬v.1=[]
 h0:∀p,g.m.head?=some p→g.S p=none→g.H=g.base
 s:∀p s,g.S p=some s→LS g p s
structure Ex (g h:VG) (i:Int):Prop where
 m:h.m=g.m
 base:h.base=g.base
 H:g.H<+:h.H
 So:∀p,¬p=i→h.S p=g.S p
 S:∀p s,g.S p=some s→∃t,h.S p=some t∧s.log.length≤t.log.length∧s.prm≤t.prm∧s.ro≤t.ro∧(s.sh=true→t.sh=true∧t.log=s.log)
 P:∀b v,g.P b=some v→h.P b=some v
 Pn:∀b,¬b % 256=i→h.P b=g.P b
 V:∀b p,g.V b p→h.V b p
 Vn:∀b p,h.V b p→¬g.V b p→p=i∧∀s,g.S i=some s→s.prm≤b
theorem Ex.refl (g:VG) (i:Int):Ex g g i:=⟨rfl,rfl,List.prefix_refl _,fun _ _=>rfl,fun p s h=>⟨s,h,amj _,Int.le_refl _,Int.le_refl _,fun h=>⟨h,rfl⟩⟩,fun _ _ h=>h,fun _ _=>rfl,fun _ _ h=>h,fun _ _ h h2=>absurd h h2⟩
section
variable {g h:VG} {i p b c a:Int} {v:Va} {n:Nat} (e:Ex g h i)
include e
theorem Ex.hg (x:HG g p c):HG h p c:=by
 rcases x with x|⟨s,h1,h2⟩
 ·exact .inl (by rw[e.base];exact x)
 ·obtain⟨t,h3,h4,_⟩:=e.S p s h1
  exact .inr ⟨t,h3,by omega⟩
theorem Ex.cg (x:CG g c):CG h c:=by
 obtain⟨h1,Q,h2,h3⟩:=x
 have:=e.H.length_le
 exact⟨by omega,Q,by rw[e.m];exact h2,fun p hp=>e.hg (h3 p hp)⟩
theorem Ex.pr (x:PR g b p):PR h b p:=by
 obtain⟨s,h1,h2⟩:=x
 obtain⟨t,h3,_,h4,_⟩:=e.S p s h1
 exact⟨t,h3,by omega⟩
theorem Ex.vl (hp:PR g b p) (x:VL g b p a):VL h b p a:=fun d hd hv=>by
 by_cases q:g.V d p
 ·exact x d hd q
 ·obtain⟨s,h1,h2⟩:=hp
  obtain⟨rfl,h3⟩:=e.Vn d p hv q
  have:=h3 s h1
  omega
theorem Ex.sh (x:SH g p n):SH h p n:=by
 obtain⟨s,h1,h2,h3⟩:=x
 obtain⟨t,h4,_,_,_,h5⟩:=e.S p s h1
 obtain⟨h6,h7⟩:=h5 h2
 exact⟨t,h4,h6,by rw[h7,e.base];exact h3⟩
theorem Ex.sg (x:SG g b v):SG h b v:=by
 obtain⟨⟨Q,a,h1,h2,h3⟩,⟨R,h4,h5⟩,h6⟩:=x
 exact⟨⟨Q,a,by rw[e.m];exact h1,fun p hp=>⟨e.pr (h2 p hp).1,e.vl (h2 p hp).1 (h2 p hp).2⟩,h3.imp id fun h3=>⟨h3.1,e.P _ _ h3.2⟩⟩,⟨R,by rw[e.m];exact h4,fun p hp=>e.sh (h5 p hp)⟩,by rw[e.base];exact h6.trans e.H⟩
theorem Ex.dg (x:DG g v):DG h v:=by
 obtain⟨b,Q,h1,h2,h3⟩:=x
 exact⟨b,Q,e.P _ _ h1,by rw[e.m];exact h2,fun p hp=>e.V _ _ (h3 p hp)⟩
theorem Ex.qg {ro:Int} {v:Pq} (hp:¬p=i) (x:QG g p ro v):QG h p ro v:=by
 refine⟨x.own,x.b0,e.pr x.pr,x.nd,by rw[e.m];exact x.sub,x.ro,fun h0=> ?_,fun h1=>⟨e.P _ _ (x.p1 h1).1,fun y hy=>e.V _ _ ((x.p1 h1).2 y hy)⟩,fun h2=>by rw[e.m];exact x.p2 h2⟩
 obtain⟨h1,h2,h3,h4,h5⟩:=x.p0 h0
 exact⟨by rw[e.Pn _ (by rw[x.own];exact hp)];exact h1,fun y hy=>⟨e.pr (h2 y hy).1,e.vl (h2 y hy).1 (h2 y hy).2.1,e.sh (h2 y hy).2.2⟩,by rw[e.base];exact h3.trans e.H,h4,fun w hw=>⟨(h5 w hw).1,e.P _ _ (h5 w hw).2⟩⟩
end
theorem VI.one {g:VG} (hg:VI g) {b:Int} {w:Va} {Q:List Int} (hb:g.P b=some w) (hq:Qu g.m Q) (hv:∀p∈Q,g.V b p):∀(n:Nat) {d:Int} {v:Va},d.toNat≤n→b≤d→g.P d=some v→v=w:=by
 intro n
 induction n with
 |zero=>
  intro d v h1 h2 h3
  have:=(hg.p b w hb).1
  omega
 |succ n ih=>
  intro d v h1 h2 h3
  by_cases hd:b=d
  ·subst hd;rw[hb]at h3;exact(amp h3).symm
  ·obtain⟨h0,⟨⟨R,a,k1,k2,k3⟩,_⟩,_⟩:=hg.p d v h3
   obtain⟨p,hp,hr⟩:=EZ hq k1
   have k4:=(k2 p hr).2 b (by omega) (hv p hp)
   have:=(hg.p b w hb).1
   rcases k3 with k3|⟨k3,k5⟩
   ·omega
   ·exact ih (d:=a) (by omega) k4 k5
theorem VI.dec {g:VG} (hg:VI g) {v w:Va} (hv:DG g v) (hw:DG g w):v=w:=by
 obtain⟨b,Q,h1,h2,h3⟩:=hv
 obtain⟨d,R,k1,k2,k3⟩:=hw
 rcases Int.le_total b d with q|q
 ·exact(hg.one h1 h2 h3 d.toNat (amj _) q k1).symm
 ·exact hg.one k1 k2 k3 b.toNat (amj _) q h1
theorem VI.in {g:VG} (hg:VI g) {v:Va} {c:Int} (hv:DG g v) (hc:CG g c):g.H.take c.toNat<+:g.base++v.2:=by
 obtain⟨b,Q,h1,_,_⟩:=hv
 obtain⟨_,⟨_,⟨R,h2,h3⟩,h4⟩,_⟩:=hg.p b v h1
 obtain⟨h5,T,h6,h7⟩:=hc
 obtain⟨p,hr,ht⟩:=EZ h2 h6
 obtain⟨s,k1,_,k2⟩:=h3 p hr
 have hl:c.toNat≤(g.base++v.2).length:=by
  rw[al2]
  rcases h7 p ht with k|⟨s',k3,k4⟩
  ·omega
  ·rw[k1]at k3;cases k3;omega
 obtain⟨t,h8⟩:=h4
 rw[←h8,List.take_append_of_le_length hl]
 exact List.take_prefix _ _
theorem Ex.ls {g h:VG} {i p:Int} {s:St} (e:Ex g h i) (hp:¬p=i) (hb:h.m.head?=some p→h.H=g.H) (x:LS g p s):LS h p s:=
 ⟨by rw[e.m];exact x.m,x.me,by rw[e.base];exact x.ba,by rw[e.base];exact x.b1,x.lg.trans e.H,fun q=>by rw[hb q];exact x.hd (by rw[←e.m];exact q),e.cg x.com,fun y hy=>e.hg (x.hs y hy),x.sh,x.pa,
  fun q=>⟨e.P _ _ (x.aa q).1,e.V _ _ (x.aa q).2⟩,fun b hb=>by
   by_cases q:g.V b p
   ·exact x.vt b q
   ·exact absurd (e.Vn b p hb q).1 hp,fun v hv=>e.qg hp (x.q v hv)⟩
theorem VI.step {g h:VG} {i:Int} {s:St} (hg:VI g) (e:Ex g h i) (hs:h.S i=some s) (hl:LS h i s) (hH:¬h.m.head?=some i→h.H=g.H)
  (hP:∀b v,h.P b=some v→¬g.P b=some v→0<b∧SG h b v∧b % 256=i∧b / 256≤s.ro∧v.1.Nodup∧¬v.1=[])
  (hV:∀b p,h.V b p→¬g.V b p→0<b∧∃v,h.P b=some v):VI h where
 nd:=by rw[e.m];exact hg.nd
 ne:=by rw[e.m];exact hg.ne
 hb:=by rw[e.base];exact hg.hb.trans e.H
 p b v hb:=by
  by_cases q:g.P b=some v
  ·obtain⟨h1,h2,t,h3,h4⟩:=hg.p b v q
   obtain⟨t',h5,_,_,h6,_⟩:=e.S _ _ h3
   exact⟨h1,e.sg h2,t',h5,by omega⟩
  ·obtain⟨h1,h2,h3,h4,_⟩:=hP b v hb q
   exact⟨h1,h2,s,by rw[h3];exact hs,h4⟩
 pn b v hb:=by
  by_cases q:g.P b=some v
  ·exact hg.pn b v q
  ·exact(hP b v hb q).2.2.2.2
 v b p hb:=by
  by_cases q:g.V b p
  ·obtain⟨h1,⟨v,h2⟩,t,h3⟩:=hg.v b p q
   obtain⟨t',h4,_⟩:=e.S _ _ h3
   exact⟨h1,⟨v,e.P _ _ h2⟩,t',h4⟩
  ·exact⟨(hV b p hb q).1,(hV b p hb q).2,s,by rw[(e.Vn b p hb q).1];exact hs⟩
 h0 p h1 h2:=by
  have hp:¬p=i:=fun q=>by rw[q,hs]at h2;cases h2
  rw[hH fun k=>hp (amp (h1.symm.trans k)),e.base]
  exact hg.h0 p (by rw[←e.m];exact h1) (by rw[←e.So p hp];exact h2)
 s p t ht:=by
  by_cases q:p=i
  ·subst q;rw[hs]at ht;cases ht;exact hl
  ·refine e.ls q (fun k=>hH fun k2=>q (amp (k.symm.trans k2))) (hg.s p t ?_)
   rw[←e.So p q];exact ht
abbrev GG:=Int→Option VG
structure GI (G:GG):Prop where
 v:∀N g,G N=some g→0<N∧VI g
 l:∀N h,0<N→G (N+1)=some h→∃g t,G N=some g∧DG g (h.m,t)∧h.base=g.base++t
structure GE (G K:GG) (i:Int):Prop where
 o:∀N g,G N=some g→∃h,K N=some h∧Ex g h i
 n:∀N h,K N=some h→G N=none→∀p,¬p=i→h.S p=none
theorem GE.refl (G:GG) (i:Int):GE G G i:=⟨fun N g h=>⟨g,h,.refl g i⟩,fun N h k k2=>by rw[k]at k2;cases k2⟩
def Good (G:GG) (n:Int) (l:List Ke):Prop:=l=[]∨∃N g,N≤n∧G N=some g∧l<+:g.H∧CG g l.length
theorem GE.good {G K:GG} {i n:Int} {l:List Ke} (e:GE G K i) (h:Good G n l):Good K n l:=by
 rcases h with h|⟨N,g,h1,h2,h3,h4⟩
 ·exact .inl h
 ·obtain⟨k,h5,h6⟩:=e.o N g h2
  exact .inr ⟨N,k,h1,h5,h3.trans h6.H,h6.cg h4⟩
theorem Good.le {G:GG} {n m:Int} {l:List Ke} (h:Good G n l) (hm:n≤m):Good G m l:=by
 rcases h with h|⟨N,g,h1,h2⟩
 ·exact .inl h
 ·exact .inr ⟨N,g,by omega,h2⟩
theorem GI.base {G:GG} (hG:GI G) {N:Int} {g:VG} {l:List Ke} (hg:G N=some g) (hl:l<+:g.H) (hc:CG g l.length):∀(d:Nat) {h:VG},G (N+(d+1:Nat))=some h→l<+:h.base
 |0,h,hh=>by
  obtain⟨g',t,h1,h2,h3⟩:=hG.l N h (hG.v N g hg).1 hh
  rw[hg]at h1;cases h1
  have:=(hG.v N g hg).2.in h2 hc
  rw[h3]
  rw[show l=g.H.take (l.length:Int).toNat by rw[Int.toNat_natCast];exact List.prefix_iff_eq_take.1 hl]
  exact this
 |d+1,h,hh=>by
  have hN:=(hG.v N g hg).1
  obtain⟨g',t,h1,h2,h3⟩:=hG.l (N+(d+1:Nat)) h (by omega) (by rw[show N+((d+1:Nat):Int)+1=N+((d+1+1:Nat):Int) by omega];exact hh)
  exact(hG.base hg hl hc d h1).trans (by rw[h3];exact List.prefix_append _ _)
end Go.Proofs.Tryz
