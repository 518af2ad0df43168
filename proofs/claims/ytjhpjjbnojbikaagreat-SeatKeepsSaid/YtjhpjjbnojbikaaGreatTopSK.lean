/- SeatKeeps: what anybody has committed stays committed there, whatever comes. No condition beyond the row. -/
import Derived.Test.YtjhpjjbnojbikaaGreatK5
import Derived.KernelRfl
import Derived.Test.YtjhpjjbnojbikaaGreatRows
import Derived.WalkKit
import Derived.ProofKit
import Derived.OpenShut
import Derived.Below
import Derived.LaidLaws
import Derived.RowKit
set_option linter.unusedSimpArgs false
set_option linter.unusedVariables false
open List renaming length_take→ami
open Option.some renaming inj→amp
namespace Go.Proofs.Tryz
open Go Go.RowKit Go.Sy
open Go.Eng hiding aj
set_option linter.unusedVariables false
theorem FD {g:VG} {i:Int} {s:St} (l:LS g i s):s.log.take s.ba.toNat=g.base:=by
 obtain⟨r,hr⟩:=l.b1
 rw[l.ba,Int.toNat_natCast,←hr,List.take_left]
theorem aay {G:GG} {now i fr:Int} {s:St} {m:Mx} (hG:GI G) (hs:SS G i s) (hN:0<s.N) (r:ROk s.m s.me s.log s.ba s.com s.hs) (hw:(bK s.m s.su s.jo s.go).Nodup∧¬bK s.m s.su s.jo s.go=[])
  (hm:MG G fr m) (hn:m.N=s.N) (h3:¬m.k=3) (h10:¬m.k=10):Ac G i s (fK now s fr m):=by
 unfold fK
 split
 ·exact .refl hG hs fun o ho=>by cases ho
 obtain⟨_,g,g1,g2⟩:=hs.inn hN
 have hv:=(hG.v _ _ g1).2
 have l:=hv.s i s g2
 generalize hro:max s.ro (m.b / 256 % 4294967296)=ro
 have hr:s.ro≤ro:=by omega
 have go:Go1 s {s with ro:=ro}:=⟨Nat.le_refl _,Int.le_refl _,hr,fun h=>⟨h,rfl⟩⟩
 have e:=lJ (t:={s with ro:=ro}) g2 go
 have l0:LS g i {s with ro:=ro}:=⟨l.m,l.me,l.ba,l.b1,l.lg,l.hd,l.com,l.hs,l.sh,l.pa,l.aa,l.vt,fun v hv=>by
  have x:=l.q v hv
  exact⟨x.own,x.b0,x.pr,x.nd,x.sub,Int.le_trans x.ro hr,x.p0,x.p1,x.p2⟩⟩
 obtain⟨K,k1,k2,k3,k4⟩:=rj (N:=s.N) hG hs hN g1 e (pX hv g2 go (iO e l0)) dF rfl rfl rfl
 obtain⟨L,o1,o2,o3,o4,o5⟩:=ahz (now:=now) k2 k3 hN r hw (k1.mg hm) hn h3 h10
 exact⟨L,k1.trans o1,o2,o3,o4,(eT (t:={s with ro:=ro}) hN hN (List.prefix_refl _) (Int.le_refl _) r.com1).trans o5⟩
theorem aax {G:GG} {now i fr:Int} {s:St} {m:Mx} (hG:GI G) (hs:SS G i s) (si:SI s) (hw:0<s.N→(bK s.m s.su s.jo s.go).Nodup∧¬bK s.m s.su s.jo s.go=[]) (hm:MG G fr m):Ac G i s (bm now s fr m):=by
 have r:0<s.N→ROk s.m s.me s.log s.ba s.com s.hs:=fun h=>(si.1 h).1.r
 unfold bm
 split
 ·rename_i q
  split
  ·rename_i k
   obtain⟨g,g1,g2,g3⟩:=hm.2.2.2.2.2.1 q
   rw[g2,g3]
   exact Di hG hs r k g1
  ·exact .refl hG hs fun o ho=>by cases ho
 rename_i q10
 split
 ·rename_i q;exact ahB hG hs si hm q.1
 rename_i q3
 split
 ·rename_i q
  obtain⟨_,g,g1,g2⟩:=hs.inn q.1
  have l:=(hG.v _ _ g1).2.s i s g2
  refine .refl hG hs fun o ho=> ?_
  rw[jl ho]
  exact HP rfl ⟨g,g1,l.m,FD l⟩
 split
 ·rename_i q
  obtain⟨_,g,g1,g2⟩:=hs.inn q.1
  refine rM hG hs ⟨rfl,rfl,rfl,rfl,rfl,rfl,rfl,rfl,rfl,rfl,rfl,rfl,.inl rfl,Int.le_refl _,rfl,rfl⟩ (fun hN K h hK _ hl _ o ho=> ?_) (fun h=>absurd q.1 h)
  unfold dm at ho
  split at ho
  ·rw[jl ho]
   have hb:=FD hl
   exact HP rfl ⟨h,hK,hl.m,hb⟩
  ·cases ho
 split
 ·split
  ·exact rM hG hs ⟨rfl,rfl,rfl,rfl,rfl,rfl,rfl,rfl,rfl,rfl,rfl,rfl,.inl rfl,Int.le_refl _,rfl,rfl⟩ (fun _ _ _ _ _ _ _ o ho=>by cases ho) (fun _ o ho=>by cases ho)
  ·exact .refl hG hs fun o ho=>by cases ho
 ·rename_i q
  have hN:0<s.N:=by omega
  exact aay hG hs hN (r hN) (hw hN) hm (by omega) (by omega) q10
def IV (f:Fx):Prop:=∃G,GI G∧(∀j:Nat,j<f.ss.length→SS G j (aI f.ss j))∧∀t∈f.fly,MG G t.1 t.2.2
def KP (f h:Fx):Prop:=h.ss.length=f.ss.length∧∀j:Nat,cG (aI f.ss j)<+:cG (aI h.ss j)
theorem KP.refl (f:Fx):KP f f:=⟨rfl,fun _=>List.prefix_refl _⟩
theorem KP.trans {f g h:Fx} (a:KP f g) (b:KP g h):KP f h:=⟨b.1.trans a.1,fun j=>(a.2 j).trans (b.2 j)⟩
theorem EU {ss:List St} {n j:Nat} {s:St} (hn:n<ss.length):aI (ss.set n s) j=if j=n then s else aI ss j:=by
 unfold aI
 rw[List.getElem?_set]
 by_cases h:n=j
 ·subst h;rw[if_pos rfl,if_pos hn,if_pos rfl];rfl
 ·rw[if_neg h,if_neg (fun q=>h q.symm)]
theorem BP {f:Fx} {n:Nat} {r:St×List (Int×Mx)} {fly:List (Int×Int×Mx)} {now k:Int} {dn:List Bool} (hn:n<f.ss.length)
  (hI:∃G,GI G∧(∀j:Nat,j<f.ss.length→SS G j (aI f.ss j))∧(∀t∈f.fly,MG G t.1 t.2.2)∧Ac G n (aI f.ss n) r)
  (hf:∀t∈fly,t∈f.fly∨(t.1=(n:Int)∧∃o∈r.2,o.2=t.2.2)):
  IV ⟨f.ss.set n r.1,dn,fly,now,k⟩∧KP f ⟨f.ss.set n r.1,dn,fly,now,k⟩:=by
 obtain⟨G,h1,h2,h3,K,k1,k2,k3,k4,k5⟩:=hI
 refine⟨⟨K,k2,fun j hj=> ?_,fun t ht=> ?_⟩,List.length_set,fun j=> ?_⟩
 ·show SS K j (aI (f.ss.set n r.1) j)
  have hj:j<(f.ss.set n r.1).length:=hj
  rw[List.length_set]at hj
  rw[EU hn]
  split
  ·rename_i q;rw[q];exact k3
  ·rename_i q;exact k1.ss (by omega) (h2 j hj)
 ·rcases hf t ht with h|⟨h,o,h5,h6⟩
  ·exact k1.mg (h3 t h)
  ·rw[h,←h6];exact k4 o h5
 ·show cG (aI f.ss j)<+:cG (aI (f.ss.set n r.1) j)
  rw[EU hn]
  split
  ·rename_i q;rw[q];exact k5
  ·exact List.prefix_refl _
theorem EA {s:St} (h:SI s) (hN:0<s.N):(bK s.m s.su s.jo s.go).Nodup∧¬bK s.m s.su s.jo s.go=[]:=by
 have i:=(h.1 hN).1
 have:=Ez (su:=s.su) (go:=s.go) i.r.nl (fun e=>by have:=i.r.me;rw[e]at this;cases this) i.jo
 exact⟨this.1.1,this.2⟩
theorem YK {f:Fx} {t:Int×Int×Mx} (hs:∀x∈f.ss,SI x) (h0:0≤t.2.1) (hI:∃G,GI G∧(∀j:Nat,j<f.ss.length→SS G j (aI f.ss j))∧(∀u∈f.fly,MG G u.1 u.2.2)∧MG G t.1 t.2.2):IV (dE f t)∧KP f (dE f t):=by
 unfold dE
 split
 ·rename_i q
  have hn:t.2.1.toNat<f.ss.length:=by omega
  obtain⟨G,g1,g2,g3,g4⟩:=hI
  have si:=hs _ (dT hn)
  refine BP hn ⟨G,g1,g2,g3,aax g1 (g2 _ hn) si (EA si) g4⟩ fun u hu=> ?_
  unfold ef at hu
  rcases List.mem_append.1 hu with hu|hu
  ·exact .inl hu
  ·obtain⟨o,ho,rfl⟩:=List.mem_map.1 hu
   exact .inr ⟨by show t.2.1=_;omega,o,List.mem_of_mem_take ho,rfl⟩
 ·obtain⟨G,g1,g2,g3,_⟩:=hI
  exact⟨⟨G,g1,g2,g3⟩,.refl f⟩
theorem YI {f:Fx} {x:Int} (hs:∀y∈f.ss,SI y∧0≤y.ro) (h8:f.ss.length≤8) (h0:0≤x∧x<f.ss.length) (hI:IV f):IV (cS f x)∧KP f (cS f x):=by
 unfold cS
 have hn:x.toNat<f.ss.length:=by omega
 split
 ·obtain⟨G,g1,g2,g3⟩:=hI
  have si:=hs _ (dT hn)
  refine BP hn ⟨G,g1,g2,g3,aau g1 (g2 _ hn) (fun h=>(si.1.1 h).1.r) (EA si.1) (by omega) si.2⟩ fun u hu=> ?_
  unfold ef at hu
  rcases List.mem_append.1 hu with hu|hu
  ·exact .inl hu
  ·obtain⟨o,ho,rfl⟩:=List.mem_map.1 hu
   exact .inr ⟨by show x=_;omega,o,List.mem_of_mem_take ho,rfl⟩
 ·exact⟨hI,⟨rfl,fun _=>List.prefix_refl _⟩⟩
theorem JW {α:Type} {l:List α} {k j:Int} {x:α} (hx:x∈dX l k j):x∈l:=by
 unfold dX at hx
 split at hx
 ·exact hx
 ·rcases List.mem_append.1 hx with hx|hx
  ·exact List.mem_of_mem_take hx
  ·exact List.mem_of_mem_drop hx
theorem af9 {B:Int} {f:Fx} {s:Sg} (hf:FI B f) (hI:IV f):IV (gP f s)∧KP f (gP f s):=by
 unfold gP
 split
 ·exact⟨hI,.refl f⟩
 ·rename_i t ht
  have hm:=List.mem_of_getElem? ht
  obtain⟨G,g1,g2,g3⟩:=hI
  split
  ·exact⟨⟨G,g1,g2,fun u hu=>g3 u (JW hu)⟩,rfl,fun _=>List.prefix_refl _⟩
  ·have h:=YK (f:={f with fly:=dX f.fly s.k (eF s.i (f.fly.length:Int))}) (t:=t) (fun x hx=>(hf.s x hx).si) (hf.fly t hm).2.1.1 ⟨G,g1,g2,fun u hu=>g3 u (JW hu),g3 t hm⟩
   exact⟨h.1,h.2⟩
theorem vg {f:Fx} {n:Nat} {t:St} {k:Int} (hn:n<f.ss.length) (hI:IV f) (ha:∀G,GI G→SS G n (aI f.ss n)→Ac G n (aI f.ss n) (t,[])):IV ⟨f.ss.set n t,f.dn,f.fly,f.now,k⟩∧KP f ⟨f.ss.set n t,f.dn,f.fly,f.now,k⟩:=by
 obtain⟨G,g1,g2,g3⟩:=hI
 exact BP (r:=(t,[])) hn ⟨G,g1,g2,g3,ha G g1 (g2 n hn)⟩ fun u hu=>.inl hu
theorem Jt {G:GG} {i:Int} {s t:St} (hG:GI G) (hs:SS G i s) (e:Eq1 s t):Ac G i s (t,[]):=rM hG hs e (fun _ _ _ _ _ _ _ o ho=>by cases ho) (fun _ o ho=>by cases ho)
theorem QV {s:St} {x:Int}:Eq1 s (gY s x):=by
 unfold gY
 split<;>exact⟨rfl,rfl,rfl,rfl,rfl,rfl,rfl,rfl,rfl,rfl,rfl,rfl,.inl rfl,Int.le_refl _,rfl,rfl⟩
theorem QW {s:St}:Eq1 s (hU s):=by
 unfold hU
 split<;>exact⟨rfl,rfl,rfl,rfl,rfl,rfl,rfl,rfl,rfl,rfl,rfl,rfl,.inl rfl,Int.le_refl _,rfl,rfl⟩
theorem Mq {s:St}:Eq1 s (fR s):=by
 unfold fR
 split<;>exact⟨rfl,rfl,rfl,rfl,rfl,rfl,rfl,rfl,rfl,rfl,rfl,rfl,.inl rfl,Int.le_refl _,rfl,rfl⟩
theorem BO {B x:Int} {f:Fx} (hf:FI B f) (hx:0≤x∧x<f.ss.length) (hI:IV f):IV (cS f x)∧KP f (cS f x):=
 YI (fun y hy=>⟨(hf.s y hy).si,(hf.s y hy).ro.1⟩) hf.ss hx hI
theorem Lo {x:Int}:∀(n:Nat) {B:Int} {f:Fx},FI B f→0≤x∧x<f.ss.length→f.now+n≤1000000000→B+n<4294967295→IV f→IV (jm n x f)∧KP f (jm n x f)
 |0,_,f,_,_,_,_,hI=>⟨hI,.refl f⟩
 |n+1,B,f,hf,hx,hn,hB,hI=>by
  obtain⟨h1,h2⟩:=BO hf hx hI
  have e:=(tick_ss (f:=f) (x:=x)).2.2
  have h3:=Lo n (f:=cS f x) (FX hf hx (by omega) (by omega)) (by rw[h2.1];exact hx) (by rw[e];omega) (by omega) h1
  exact⟨h3.1,h2.trans h3.2⟩
theorem aj1 {B:Int} {f:Fx} {s:Sg} (hf:FI B f) (h0:0<f.ss.length) (hn:f.now+10≤1000000000) (hB:B+10<4294967295) (hI:IV f):IV (cU f s)∧KP f (cU f s):=by
 have hx:=gk s.x (f.ss.length:Int) (by omega)
 have hx:0≤eF s.x (f.ss.length:Int)∧eF s.x (f.ss.length:Int)<(f.ss.length:Int):=hx
 have hk:(eF s.x (f.ss.length:Int)).toNat<f.ss.length:=by omega
 unfold cU
 dsimp only
 split
 ·exact BO hf hx hI
 split
 ·exact af9 hf hI
 split
 ·split
  ·exact vg (f:=f) hk hI fun G g1 g2=>ahy g1 g2 (hf.s _ (dT hk)).si
  ·exact⟨hI,.refl f⟩
 split
 ·exact vg (f:=f) hk hI fun G g1 g2=>Jt g1 g2 QV
 split
 ·exact vg (f:=f) hk hI fun G g1 g2=>Jt g1 g2 QW
 split
 ·exact vg (f:=f) hk hI fun G g1 g2=>Jt g1 g2 Mq
 split
 ·exact⟨hI,rfl,fun _=>List.prefix_refl _⟩
 split
 ·exact Lo 10 hf hx hn hB hI
 ·exact⟨hI,.refl f⟩
theorem af8 {B:Int} {f:Fx} (hf:FI B f) (hI:IV f) {a b:Nat} (ha:a<f.ss.length) (hb:b<f.ss.length):
  (0<(aI f.ss a).N→(aI f.ss a).N=(aI f.ss b).N→(aI f.ss a).m=(aI f.ss b).m)∧(cG (aI f.ss a)<+:cG (aI f.ss b)∨cG (aI f.ss b)<+:cG (aI f.ss a)):=by
 obtain⟨G,g1,g2,g3⟩:=hI
 have ka:=g2 a ha
 have kb:=g2 b hb
 have sa:=(hf.s _ (dT ha)).si
 have sb:=(hf.s _ (dT hb)).si
 refine⟨fun h e=> ?_,(ka.good g1 fun h=>(sa.1 h).1.r).or g1 (kb.good g1 fun h=>(sb.1 h).1.r)⟩
 obtain⟨_,g,h2,h3⟩:=ka.inn h
 obtain⟨_,k,h4,h5⟩:=kb.inn (by omega)
 rw[←e,h2]at h4;cases h4
 have v:=(g1.v _ _ h2).2
 rw[(v.s _ _ h3).m,(v.s _ _ h5).m]
theorem Ao {l all:List Int} {n j:Nat} (hj:j<n):aI (dC l all n) j=gm (eE j l) all:=by
 unfold aI dC bi
 rw[List.getElem?_map,List.getElem?_map,List.getElem?_range hj]
 rfl
theorem jn {l all:List Int} {p:Int} (h:p∈l):gm (eE p l) all={An with me:=p,met:=all,N:=1,m:=l,hs:=l.map fun y=>(y,(0:Int)),se:=1,tr:=2}:=by
 unfold eE
 rw[if_pos h]
 unfold bM
 rw[if_pos (show p∈l from h)]
 rfl
theorem oD {l all:List Int} {p:Int} (h:¬p∈l):gm (eE p l) all={An with me:=p,met:=all}:=by
 unfold eE
 rw[if_neg h]
 rfl
theorem YJ {k m:Nat} (hk:0<k) (hkm:k+m≤8):IV (fh k m):=by
 generalize hl:bi k=l
 have h1:l.Nodup:=by rw[←hl];exact(jP (by omega)).1
 have h2:¬l=[]:=by rw[←hl];exact pV hk
 generalize ha:bi (k+m)=all
 have e:fh k m=⟨dC l all (k+m),List.replicate (k+m) false,[],0,0⟩:=by unfold fh;rw[hl,ha]
 rw[e]
 refine⟨fun N=>if N=1 then some ⟨l,[],[],fun p=>if p∈l then some (gm (eE p l) all) else none,fun _=>none,fun _ _=>False⟩ else none,⟨fun N g hg=> ?_,fun N h hN hg=> ?_⟩,fun j hj=> ?_,fun t ht=>by cases ht⟩
 ·split at hg
  ·rename_i q
   cases hg
   refine⟨by omega,h1,h2,List.prefix_refl _,(fun b v h=>by cases h),(fun b p h=>h.elim),(fun b v h=>by cases h),fun _ _ _=>rfl,fun p s hs=> ?_⟩
   dsimp only at hs
   split at hs
   ·rename_i hp
    rw[jn hp]at hs
    cases hs
    refine⟨rfl,rfl,rfl,List.prefix_refl _,List.prefix_refl _,fun _=>rfl,⟨Int.le_refl _,l,JY h1 h2,fun _ _=>.inl (Int.le_refl _)⟩,fun y hy=> ?_,fun q=>absurd rfl q,Int.le_refl _,fun q=>absurd rfl q,fun b hb=>hb.elim,fun v hv=>by cases hv⟩
    obtain⟨z,_,rfl⟩:=List.mem_map.1 hy
    exact .inl (Int.le_refl _)
   ·cases hs
  ·cases hg
 ·rw[if_neg (by omega)]at hg
  cases hg
 ·have hj:j<k+m:=by
   have:j<(dC l all (k+m)).length:=hj
   rwa[fE]at this
  show SS _ _ (aI (dC l all (k+m)) j)
  rw[Ao hj]
  by_cases hp:(j:Int)∈l
  ·refine⟨by rw[jn hp],fun _=>⟨by rw[jn hp],_,by rw[jn hp];exact if_pos rfl,if_pos hp⟩,fun N g hN hg=> ?_,fun h=>absurd (show(0:Int)<1 by omega) (by rw[jn hp]at h;exact h)⟩
   rw[jn hp]at hN
   have hN:(1:Int)<N:=hN
   rw[if_neg (by omega)]at hg;cases hg
  ·refine⟨by rw[oD hp],fun h=>absurd h (by rw[oD hp];show¬(0:Int)<0;omega),fun N g hN hg=> ?_,fun h=>by rw[oD hp];exact⟨.inl rfl,Int.le_refl _,Int.le_refl _⟩⟩
   split at hg
   ·cases hg;exact if_neg hp
   ·cases hg
theorem Ws {α:Type} {a b:List α} (h:a<+:b∨b<+:a):a.take (min a.length b.length)=b.take (min a.length b.length):=by
 rcases h with⟨t,rfl⟩|⟨t,rfl⟩
 ·rw[List.length_append,show min a.length (a.length+t.length)=a.length by omega]
  simp
 ·rw[List.length_append,show min (b.length+t.length) b.length=b.length by omega]
  simp
theorem Lp {B:Int} {f:Fx} (hf:FI B f) (hI:IV f) {i:Nat} (hi:i<f.ss.length):0≤cL (aI f.ss i)∧cL (aI f.ss i)≤((bU (aI f.ss i)).length:Int)∧(bU (aI f.ss i)).length≤400:=by
 have si:=(hf.s _ (dT hi)).si
 unfold cL bU
 by_cases h:0<(aI f.ss i).N
 ·have r:=(si.1 h).1.r
  rw[if_pos h,if_pos h]
  exact⟨r.com0,r.com1,r.len⟩
 ·have o:=si.2 h
  rw[if_neg h,if_neg h]
  obtain⟨G,_,g2,_⟩:=hI
  have w:=((g2 i hi).out h).2
  exact⟨w.1,w.2,o.wasl⟩
theorem PP {B:Int} {f:Fx} (hf:FI B f) (hI:IV f):oy f:=by
 refine⟨fun i hi=>Lp hf hI hi,fun i k hi hk=> ?_⟩
 obtain⟨h1,h2⟩:=af8 hf hI hi (show k<f.ss.length by omega)
 exact⟨fun a b e=>h1 a e,Ws h2⟩
theorem agV {f:Fx} {t:Int×Int×Mx}:(dE f t).n=f.n:=by
 unfold dE;split<;>rfl
theorem JH {f:Fx} {x:Int}:(cS f x).n=f.n:=by
 unfold cS;split<;>rfl
theorem TK {x:Int}:∀{n:Nat} {f:Fx},(jm n x f).n=f.n
 |0,_=>rfl
 |n+1,f=>by rw[jm,TK,JH]
theorem ajT {f:Fx} {s:Sg}:(gP f s).n=f.n:=by
 unfold gP
 split
 ·rfl
 split
 ·rfl
 ·exact agV
theorem ak7 {f:Fx} {s:Sg}:f.n≤(cU f s).n∧(cU f s).n≤f.n+1:=by
 have e:∀{x:Int},x=f.n→f.n≤x∧x≤f.n+1:=fun h=>by omega
 unfold cU
 dsimp only
 split
 ·exact e JH
 split
 ·exact e ajT
 split
 ·split
  ·exact⟨by dsimp only;omega,Int.le_refl _⟩
  ·exact e rfl
 split
 ·exact e rfl
 split
 ·exact e rfl
 split
 ·exact e rfl
 split
 ·exact e rfl
 split
 ·exact e TK
 ·exact e rfl
structure OV (i:Int) (f:Fd):Prop where
 fc:FC (2000 - 10*i) f
 iv:IV f.er
 ps:0<f.ps.length
 n:0≤f.n∧f.n≤i
theorem OV.com {i:Int} {f:Fd} (h:OV i f) {x:Nat} (hx:x<f.ps.length):0≤cL (aI f.ss x)∧cL (aI f.ss x)≤((bU (aI f.ss x)).length:Int)∧(bU (aI f.ss x)).length≤400:=by
 obtain⟨B,b,_⟩:=h.fc.i
 exact Lp b h.iv (i:=x) (by show x<f.ss.length;have:=h.fc.w.ps;omega)
theorem OV.step {i:Int} {f g:Fd} {s:Sg} (h:OV i f) (h1:i<200) (po:PO f g (cU f.er s) 10):OV (i+1) g∧∀j:Nat,cG (aI f.ss j)<+:cG (aI g.ss j):=by
 obtain⟨B,b,hB⟩:=h.fc.i
 have hn:=h.fc.now
 have hp:=h.fc.w.ps
 have hp0:=h.ps
 obtain⟨k1,k2⟩:=aj1 (s:=s) b (show 0<f.ss.length by omega) (show f.now+10≤1000000000 by omega) (by omega) h.iv
 have e:=po.1
 have e1:g.n=(cU f.er s).n:=congrArg Fx.n e
 have e2:=ak7 (f:=f.er) (s:=s)
 have e3:f.er.n=f.n:=rfl
 have e4:=h.n
 refine⟨⟨po.2.2 _ (by omega) (h.fc.le (by omega)),by rw[e];exact k1,by rw[po.2.1];exact hp0,by omega⟩,fun j=> ?_⟩
 have e5:g.ss=(cU f.er s).ss:=congrArg Fx.ss e
 rw[e5]
 exact k2.2 j
theorem OV.right {i:Int} {f:Fd} (h:OV i f) (h1:i≤200):FC 0 f∧oy f.er:=by
 obtain⟨B,b,_⟩:=h.fc.i
 exact⟨h.fc.le (by omega),PP b h.iv⟩
theorem OV.made {f:Fd} {k m:Nat} (hk:0<k) (hkm:k+m≤8) (he:f.er=fh k m) (hf:FC 800000 f):OV 0 f∧f.ps.length=k+m∧∀x:Nat,x<k+m→cG (aI f.ss x)=[]:=by
 have hp:=hf.w.ps
 have e:f.ss=dC (bi k) (bi (k+m)) (k+m):=congrArg Fx.ss he
 have e1:f.ps.length=k+m:=by rw[hp,e,fE]
 have e2:f.n=0:=congrArg Fx.n he
 refine⟨⟨hf.le (by omega),by rw[he];exact YJ hk hkm,by omega,by omega⟩,e1,fun x hx=> ?_⟩
 rw[e,Ao hx]
 by_cases q:(x:Int)∈bi k
 ·rw[jn q];rfl
 ·rw[oD q];rfl
structure KV (i:Int) (x:Nat) (l:List Ke) (f:Fd):Prop where
 o:OV i f
 lt:x<f.ps.length
 l:l=cG (aI f.ss x)
theorem KV.made {f:Fd} {k m:Nat} (hk:0<k) (hkm:k+m≤8) (he:f.er=fh k m) (hf:FC 800000 f) (z:Int):KV 0 ((z.tmod (f.ps.length:Int)+(f.ps.length:Int)).tmod (f.ps.length:Int)).toNat [] f∧0≤(z.tmod (f.ps.length:Int)+(f.ps.length:Int)).tmod (f.ps.length:Int):=by
 obtain⟨h1,h2,h3⟩:=OV.made hk hkm he hf
 have h4:=gk z (f.ps.length:Int) (by omega)
 exact⟨⟨h1,by omega,(h3 _ (by omega)).symm⟩,h4.1⟩
theorem OV.len {f:Fd} {k m:Nat} (hk:0<k) (hkm:k+m≤8) (he:f.er=fh k m) (hf:FC 800000 f) (z:Int):(f.ps.length:Int)≠0∧ -(f.ps.length:Int)<z.tmod (f.ps.length:Int)∧z.tmod (f.ps.length:Int)<(f.ps.length:Int)∧f.ps.length≤8:=by
 obtain⟨h1,h2,h3⟩:=OV.made hk hkm he hf
 have h4:=kP z (f.ps.length:Int) (by omega)
 exact⟨by omega,h4.1,h4.2,by omega⟩
theorem KV.len {i:Int} {x:Nat} {l:List Ke} {f:Fd} (h:KV i x l f):l.length≤400:=by
 rw[h.l]
 have q:=(h.o.com h.lt).2.2
 show((bU (aI f.ss x)).take _).length≤400
 rw[ami];omega
theorem KV.step {i:Int} {x:Nat} {l:List Ke} {f g:Fd} {s:Sg} (h:KV i x l f) (h1:i<200) (po:PO f g (cU f.er s) 10):
  OV (i+1) g∧x<g.ps.length∧(l.length:Int)≤cL (aI g.ss x)∧(bU (aI g.ss x)).take l.length=l:=by
 obtain⟨k1,k2⟩:=h.o.step h1 po
 have hx:x<g.ps.length:=by rw[po.2.1];exact h.lt
 have c:=k1.com hx
 have k3:=k2 x
 rw[←h.l]at k3
 have e:cG (aI g.ss x)=(bU (aI g.ss x)).take (cL (aI g.ss x)).toNat:=rfl
 rw[e]at k3
 have hl:=k3.length_le
 rw[ami]at hl
 exact⟨k1,hx,by omega,(List.prefix_iff_eq_take.1 (k3.trans (List.take_prefix _ _))).symm⟩
theorem KV.next {i:Int} {x:Nat} {g:Fd} (h:OV i g) (hx:x<g.ps.length) {l m:List Ke} {c:Int} (hm:m=bU (aI g.ss x)) (hc:c=cL (aI g.ss x)) (e:l=m.take c.toNat):KV i x l g:=⟨h,hx,by rw[e,hm,hc];rfl⟩
theorem KV.same {l m:List Ke} {s:St} (hm:m=bU s) (h:(bU s).take l.length=l) (h4:l.length≤400):(m.drop (Int.toNat 0)).take ((l.length:Int).toNat - Int.toNat 0)=l∧((m.drop (Int.toNat 0)).take ((l.length:Int).toNat - Int.toNat 0)).length≤1000000:=by
 have e:(m.drop (Int.toNat 0)).take ((l.length:Int).toNat - Int.toNat 0)=l:=by subst hm;exact h
 exact⟨e,by rw[e];omega⟩
theorem k4 (z:Int): -4<z.tmod 4∧z.tmod 4<4∧0≤(z.tmod 4+4).tmod 4∧(z.tmod 4+4).tmod 4<4:=⟨(kP z 4 (by decide)).1,(kP z 4 (by decide)).2,(gk z 4 (by decide)).1,(gk z 4 (by decide)).2⟩
theorem k3 (z:Int): -3<z.tmod 3∧z.tmod 3<3∧0≤(z.tmod 3+3).tmod 3∧(z.tmod 3+3).tmod 3<3:=⟨(kP z 3 (by decide)).1,(kP z 3 (by decide)).2,(gk z 3 (by decide)).1,(gk z 3 (by decide)).2⟩
end Go.Proofs.Tryz
namespace Go.Proofs.Tryz
open Go Go.RowKit Go.Sy
open Go.Eng hiding aj
set_option maxRecDepth 1000000
set_option linter.unusedVariables false
set_option maxHeartbeats 4000000
attribute [local irreducible] aq Int.tmod gP jm dE cS
theorem Uu {n:Int} (h:0≤n):0≤n.tmod 16∧n.tmod 16<16∧0≤n.tdiv 16∧n.tdiv 16≤n:=⟨Int.tmod_nonneg _ h,Int.tmod_lt_of_pos n (by decide),by rw[Int.tdiv_eq_ediv_of_nonneg h];omega,by rw[Int.tdiv_eq_ediv_of_nonneg h];omega⟩
noncomputable def Fy (f:Fd) (s:Sg) (k0:Nat) (k1:Nat) (k2:Nat):T:=(.node (.node (.node .leaf (some (.prow 36 1 Value f.ps Ja)) .leaf) (some (.blk false 34 5 [[.sy (.prow 3 k0),.sy (.prow 4 k1),.sy (.psub 5 33 f.a k2 f.o (some f.cp)),.sy (.int 0 f.now),.sy (.int 0 f.n)]])) (.node .leaf (some (AL f.L)) .leaf)) (some (.opq (List Value×List St) (f.ps,f.ss) bJ)) (.node (.node .leaf (some (.prow 4 1 Bool f.dn zR)) .leaf) (some (.blk false 28 4 [[.sy (.int 0 s.k),.sy (.int 0 s.x),.sy (.int 0 s.y),.sy (.int 0 s.i)]])) .leaf))
noncomputable def Fyn (f:Fd) (s:Sg):T:=Fy f s f.ps.length f.dn.length (f.L.length - f.a)
noncomputable def Fz (f:Fd) (s:Sg) (t:Fl) (k0:Nat) (k1:Nat) (k2:Nat):T:=(.node (.node (.node .leaf (some (.blk false 76 33 [[.sy (.int 0 t.fr),.sy (.int 0 t.to),.sy (.int 1 t.m.k),.int 1 (.ofNat 0),.int 1 (.ofNat 0),.sy (.int 3 t.m.N),.sy (.int 3 t.m.fr),.sy (.int 3 t.m.c),.int 3 (.ofNat 0),.sy (.int 4 t.m.b),.sy (.int 4 t.m.acc),.int 1 (.ofNat 0),.int 2 (.ofNat 0),.int 3 (.ofNat 0),.int 1 (.ofNat 0),.int 1 (.ofNat 0),.int 1 (.ofNat 0),.int 1 (.ofNat 0),.int 1 (.ofNat 0),.int 1 (.ofNat 0),.int 1 (.ofNat 0),.nilS,.int 1 (.ofNat 0),.str [],.int 1 (.ofNat 0),.sy (.int 3 t.m.vn),.sy (.imm t.m.vh 2 Int t.m.vl am),.sy (.int 1 t.m.pn),.sy (.int 2 t.m.pl),.sy (.bool (t.m.has=true)),.sy (.imm t.m.mh 2 Int t.m.ml am),.sy (.imm t.m.h 18 Ke t.m.l aD),.sy (.imm t.m.th 18 Ke t.m.tl aD)]])) .leaf) (some (.blk false 34 5 [[.sy (.prow 4 k0),.sy (.prow 5 k1),.sy (.psub 6 33 f.a k2 f.o (some f.cp)),.sy (.int 0 f.now),.sy (.int 0 f.n)]])) (.node .leaf (some (.prow 4 1 Bool f.dn zR)) .leaf)) (some (.opq (List Value×List St) (f.ps,f.ss) bJ)) (.node (.node .leaf (some (.prow 36 1 Value f.ps Ja)) .leaf) (some (.blk false 28 4 [[.sy (.int 0 s.k),.sy (.int 0 s.x),.sy (.int 0 s.y),.sy (.int 0 s.i)]])) (.node .leaf (some (AL f.L)) .leaf)))
noncomputable def UW (f:Fd) (s:Sg) (t:Fl):T:=Fz f s t f.ps.length f.dn.length (f.L.length - f.a)
noncomputable def bd_remG':NV (fun e0=>df [e0] [] [] 0x170e456326d3df1dd5f4c6ca6f08ed88c452e1eba5800b563e325aa5b64f9795628b27c8b6a4044be05089a78bed24396e072ad3c8f3c9dd11eb7e3819f098c15ba70e9a2e513724821cff2f2984bcb3b2376b01752198e48d5c8a6b8ed3c9):=⟨_,by conv=>rhs;reduce⟩
noncomputable abbrev Gs:XC:=bd_remG'.1 (eC 76 33 Jb)
noncomputable def bd_midG':NV (fun b0=>df [] [] [b0] 0xaef6bbd3f5c8321c7591ac31b158e20abbc626aee59a5324257b247f1204107cbc8c207754db34c0e42ed9fc13a185abfdcbd6d00f2ae10d3c860541a0ff):=⟨_,by conv=>rhs;reduce⟩
noncomputable abbrev Gt:XC:=bd_midG'.1 Gs
noncomputable def bd_l_ten':NV (df [] [] [] 0x143e5060da2cd55991cc2bf11a91db176a5fd58d58378b8616f585adf36025864):=⟨_,by conv=>rhs;reduce⟩
noncomputable abbrev CR:XC:=bd_l_ten'.1
noncomputable def ft_doG':NV (fun b0 b1=>aB [] [] [b0,b1] 0x981fafc24450d8f859023bae78d70136eda7559b2b733280eba3f1e66613a08f9ca6d33824fa766ee5cad77a5a50365b003f2e5cce0e5f8a61e10ed69d16be0e15e31715a52e94dd2d5fee5742b803868876debf9877a4e6c3bb0cc22a2b2901dddf162160517fc1822be2c221ea3882f70d12a15ba9f801f0061b45de023edc7f83f866908afe3fcbe328404e8465142cfa2f984877ff48ced413a083a076310faea63cf344d7f169f46a8623196166c71bad1bb6d50fe96cbd0f94a78095d21a5bda68c8b39b1c6e1c10ad48669e58aa227e720867216eb523c498729a93d74b945c95fff8297843d83b3954d2f7b3d65e81e50ee1445f3140eebeebebdbd7b44ebd79055bff6830851fb9439a1):=⟨_,by conv=>rhs;reduce⟩
noncomputable abbrev agy:XF:=ft_doG'.1 Gt CR
theorem Ma:aK Tryz.prog 10 agy=true:=by kernel_rfl
structure aiF where
 f:Fd
 s:Sg
 kk:Int
structure ahR where
 f:Fd
structure aaP where
 f:Fd
structure aiB where
 f:Fd
 s:Sg
 t:Fl
 j:Int
structure ahJ where
 L:List Fl
 a:Nat
 o:Nat
 cp:Nat
structure GN where
 f:Fd
 x:Int
 i:Int
structure aaU where
 f:Fd
noncomputable def BC:bN:=cq (cq (cq bT 1 (fun p:aiF=>((.cons 7 (.sy (.int 0 p.kk)) (.cons 3 (.ptr 2 0) (.cons 0 (.ptr 1 0) .nil))),(Fyn p.f p.s),6)) (fun p=>FC 1 p.f∧1≤p.s.k∧p.s.k≤6∧p.kk=((p.f.L.length - p.f.a:Nat):Int)) (fun p K=>ae (aj fun r:ahR=>iP (PO p.f r.f (gP p.f.er p.s) 1) (K 0 .nil (gp r.f) 5) true) (aj fun r:aaP=>iP (PO p.f r.f (gP p.f.er p.s) 1) (K 1 .nil (gp r.f) 5) true))) 0 (fun p:aiB=>((.cons 9 (.ptr 3 0) (.cons 8 (.sy (.int 0 p.j)) (.cons 3 (.ptr 2 0) (.cons 0 (.ptr 1 0) .nil)))),(UW p.f p.s p.t),7)) (fun p=>p.f.a≤p.f.L.length∧p.f.L.length≤1000000000∧0≤p.j∧p.j<((p.f.L.length - p.f.a:Nat):Int)) (fun p K=>aj fun r:ahJ=>iP (r.L.drop r.a=dX (p.f.L.drop p.f.a) p.s.k p.j∧r.a≤r.L.length∧r.L.length≤p.f.L.length) (K 0 (.cons 9 (.ptr 3 0) (.cons 3 (.ptr 2 0) (.cons 0 (.ptr 1 0) .nil))) (UW ({p.f with L:=r.L,a:=r.a,o:=r.o,cp:=r.cp}:Fd) p.s p.t) 7) true)) 2 (fun p:GN=>((.cons 10 (.sy (.int 0 p.i)) (.cons 5 (.sy (.int 0 p.x)) (.cons 0 (.ptr 1 0) .nil))),(gp p.f),5)) (fun p=>FC (10 - p.i) p.f∧0≤p.x∧p.x<(p.f.ps.length:Int)∧0≤p.i∧p.i≤10) (fun p K=>aj fun r:aaU=>iP (PO p.f r.f (jm (10 - p.i).toNat p.x p.f.er) (10 - p.i)) (K 3 .nil (gp r.f) 5) true)
theorem Yp:bj Tryz.prog 175 2 BC false 0 Gs:=lP (nat:=iW) cy (fun _ _ _ _=>rfl) fun p K hpre hK=>by
 dsimp only at hpre hK ⊢
 obtain⟨a0,a1,k1,k2⟩:=hpre
 have nnx:=trivial
 have nnl:=trivial
 have ys {g:Prop} (h:g:=by first|(simp only[gX];first|omega|(have m0_:=m0 (by omega);omega)|(have t5:=Uu (n:=p.f.n+1) (by omega);omega);done)|(simp[bR];omega;done)|fail):g:=h
 have yp {g:Prop} (h:g:=by first|(first|exact ajv a0 (by omega)|exact rp (A:=[]) (C:=[]) k1 k2 a0 (by omega) (by assumption) (by assumption) rfl|exact rp (A:=[]) k1 k2 a0 (by omega) (by assumption) rfl (List.nil_append _).symm|exact rp (C:=[]) k1 k2 a0 (by omega) rfl (by assumption) (List.append_nil _).symm|exact rp k1 k2 a0 (by omega) rfl rfl rfl)|fail):g:=h
 have yq {g:Prop} (h:g:=by first|(refine wX ((p.f.L.drop (p.f.a+((p.j+(1:Int)).toNat))).take ((p.f.L.length - p.f.a) - ((p.j+(1:Int)).toNat))) (by first|exact sd|exact ys) ?_;exact wz)|fail):g:=h
 have ye {g:Prop} (h:g:=by first|(first|exact cR hK (.mk ..) (e:=by intro t h;dsimp only[Fz,UW]at h;subst h;exact rfl))|fail):g:=h
 exact wz
theorem Yq:bj Tryz.prog 175 2 BC false 1 Gt:=lP (nat:=iW) (dB Yp) (fun _ _ _ _=>rfl) fun p K hpre hK=>by
 dsimp only at hpre hK ⊢
 obtain⟨hK0,hKr0⟩:=ac hK
 have hK1:=hKr0
 obtain⟨hf,y1,y2,y3⟩:=hpre
 have hw:=hf.w
 have hwa:=hw.a
 have hnow:=hf.now
 have hL:=hf.L
 obtain⟨Bq,bq,hB⟩:=hf.i
 have m0:=fun h=>kP p.s.i p.kk h
 have m1:=gk p.s.i p.kk
 have nnr:=trivial
 have nnh:=trivial
 have ys {g:Prop} (h:g:=by first|(simp only[gX];first|omega|(have m0_:=m0 (by omega);omega)|(have t5:=Uu (n:=p.f.n+1) (by omega);omega);done)|(first|omega|(have m1_:=m1 (by omega);omega))|fail):g:=h
 have yg {g:Prop} (h:g:=by first|(exact⟨hw.a,by omega,(m1 (by omega)).1,by have:=(m1 (by omega)).2;omega⟩)|(have hx_:=(by with_reducible assumption:p.f.L[_]?=some _);have hr_:=(by with_reducible assumption:_=dX _ _ _∧_);have hq_:=Aw (o:=0) (cp:=0) bq hr_.1;exact Rc (B:=Bq) ⟨hw.ps,hw.dn,hw.ss,hr_.2.1,by dsimp only;omega⟩ ⟨hq_.ss,hq_.dn,hq_.s,hq_.fly,hq_.now⟩ (by omega) (by dsimp only;omega) (by dsimp only;omega) (Mj bq hx_))|fail):g:=h
 have yp {g:Prop} (h:g:=by first|(first|(have hk_:p.s.k=6:=(by omega);exact ajV y3 hi1 hi2 hk_)|(have hk_:¬p.s.k=6:=(by omega);exact ajU y3 hi1 hi2 hk_ hi))|(exact ajW y3 (by omega))|fail):g:=h
 have yq {g:Prop} (h:g:=by first|(refine cb (.mk p.f p.s (.mk _ _ (.mk ..) ..) _) (e:=by intro t h;dsimp only[Fz,UW]at h;subst h;exact rfl) (h:= ?_);exact wo)|(refine cb (.mk (.mk ..) (.mk ..) (.mk _ _ (.mk ..) ..) ..) (h:= ?_);exact wo)|(refine cb (.mk (.mk ..) (.mk _ _ (.mk ..) ..) ..) (h:= ?_);exact wo)|fail):g:=h
 exact wz
theorem PC:bj Tryz.prog 175 2 BC true 2 CR:=lL (nat:=iW) (fun p:GN=>(10 - p.i).toNat) cy (fun _ _ _ _=>rfl) fun p K hpre hK=>by
 dsimp only at hpre hK ⊢
 obtain⟨hf,y1,y2,y3,y4⟩:=hpre
 have hw:=hf.w
 have hwp:=hw.ps
 have hnow:=hf.now
 have hL:=hf.L
 obtain⟨Bq,bq,hB⟩:=hf.i
 have ys {g:Prop} (h:g:=by first|(simp only[gX];first|omega|(have m0_:=m0 (by omega);omega)|(have t5:=Uu (n:=p.f.n+1) (by omega);omega);done)|fail):g:=h
 have yg {g:Prop} (h:g:=by first|(first|exact Am hw bq (by omega) (by omega) (by omega) ⟨by omega,by omega⟩)|fail):g:=h
 have yp {g:Prop} (h:g:=by first|(exact VS (by omega) (by omega))|fail):g:=h
 have yb {g:Prop} (h:g:=by first|(have hc_:=hi;have hp_:=congrArg List.length hc_.2.1;exact⟨ad3 hf (by omega) (by omega) (by omega) hc_,by omega,by omega,by omega,by omega⟩)|fail):g:=h
 have yx {g:Prop} (h:g:=by first|(have hc_:=hi;have hp_:=congrArg List.length hc_.2.1;exact wW hK fun r hz=>by(try dsimp only[oL,oN]at hz);exact ND (by omega) (by omega) y1 (by omega) hw hc_ hz)|fail):g:=h
 exact wz
structure akX where
 f:Fd
 s:Sg
structure aky where
 f:Fd
theorem aff:dM Tryz.prog 10 2 (aO (fun p:akX=>([.ptr 0 0,.ptr 1 0,.agg [.sy (.int 0 p.s.k),.sy (.int 0 p.s.x),.sy (.int 0 p.s.y),.sy (.int 0 p.s.i)]],(gp p.f),5)) (fun p=>FC 10 p.f∧0<p.f.ps.length∧0≤p.f.n∧p.f.n≤1000) (fun p K=>aj fun r:aky=>iP (PO p.f r.f (cU p.f.er p.s) 10) (K (.tup []) (gp r.f) 5) true)):=KR (nat:=iW) Ma (fun b j x h=>(cW Yq (fun h=>(cW PC (fun h=>(by cases h)) h)) h)) fun p K hpre hK=>by
 dsimp only at hpre hK ⊢
 obtain⟨hf,hp0,c0,c1⟩:=hpre
 have hw:=hf.w
 have hwp:=hw.ps
 have hw8:=hw.ss
 have hnow:=hf.now
 have hL:=hf.L
 obtain⟨Bq,bq,hB⟩:=hf.i
 have m0:=kP p.s.x p.f.ps.length (by omega)
 have m1:=gk p.s.x p.f.ps.length (by omega)
 have m2:=kP p.s.y p.f.ps.length (by omega)
 have m3:=gk p.s.y p.f.ps.length (by omega)
 have hwd:=hw.dn
 have nnx:=trivial
 have nnr:=trivial
 have ys {g:Prop} (h:g:=by first|(simp only[gX];first|omega|(have m0_:=m0 (by omega);omega)|(have t5:=Uu (n:=p.f.n+1) (by omega);omega);done)|(first|omega|(have m1_:=m1 (by omega);omega))|(decide)|(have e2l:x3=x2:=amp ((by assumption:_=some x3).symm.trans (by assumption:_=some x2));subst e2l;rfl)|(have e2l:x2=x1:=amp ((by assumption:_=some x2).symm.trans (by assumption:_=some x1));subst e2l;rfl)|(exact⟨Nat.le_refl _,[.sbool (true=true)],⟨.inr (.inr (.inr ⟨_,_,rfl,rfl,Iff.rfl⟩)),trivial⟩,rfl⟩)|(rw[List.length_set];done)|fail):g:=h
 have yg {g:Prop} (h:g:=by first|(first|exact Am hw bq (by omega) (by omega) (by omega) ⟨by omega,by omega⟩)|(exact⟨hf.le (by omega),by omega,by omega,rfl⟩)|(exact⟨by assumption,by omega,(bq.s _ (dT (n:=(Int.tmod _ (p.f.ps.length:Int)).toNat) (by show _<p.f.ss.length;omega))).si,FJ (by omega)⟩)|(exact⟨by assumption,by omega,(bq.s _ (dT (n:=(Int.tmod _ (p.f.ps.length:Int)).toNat) (by show _<p.f.ss.length;omega))).si⟩)|(exact⟨hf,by omega,by omega,by omega,by omega⟩)|fail):g:=h
 have yp {g:Prop} (h:g:=by first|(first|(have hk_:p.s.k=7:=(by omega);first|exact alb rfl hw hp0 (by omega) ⟨c0,c1⟩ (by assumption) (by assumption)|exact ajn rfl hw (by omega) (by assumption) (by assumption))|(have hk_:p.s.k=0:=(by omega);exact alc hw hp0 hk_ hi)|(have hk_:1≤p.s.k∧p.s.k≤6:=(by omega);exact ak8 hk_.1 hk_.2 hi)|(have hk_:p.s.k=12:=(by omega);exact ajo hw hk_ hi)|(have hk_:p.s.k=8:=(by omega);exact ala rfl rfl hw hp0 hk_)|(have hk_:p.s.k=9:=(by omega);exact ak9 rfl hw hp0 hk_)|(have hk_:p.s.k=10:=(by omega);exact ajq rfl hw hp0 hk_)|(have hk_:p.s.k=11:=(by omega);exact ajp rfl hw hk_)|(have hk_:¬p.s.k=0∧¬(1≤p.s.k∧p.s.k≤12):=(by omega);exact ajm hk_))|fail):g:=h
 have yz {g:Prop} (h:g:=by first|(have e2l:x3=x2:=amp ((by assumption:_=some x3).symm.trans (by assumption:_=some x2));subst e2l;rfl)|(have e2l:x2=x1:=amp ((by assumption:_=some x2).symm.trans (by assumption:_=some x1));subst e2l;rfl)|fail):g:=h
 have yq {g:Prop} (h:g:=by first|(show Cl _ ny lc lq _;refine aka (.mk _ _ ((((p.s.x.tmod (p.f.ps.length:Int))+(p.f.ps.length:Int)).tmod (p.f.ps.length:Int)).toNat) _ (.mk ..) ..) (h:= ?_);dsimp only[lq,AD,Lk];exact wo)|(show Cl _ nv la lm _;refine aj9 (.mk _ _ ((((p.s.x.tmod (p.f.ps.length:Int))+(p.f.ps.length:Int)).tmod (p.f.ps.length:Int)).toNat) ..) (h:= ?_);dsimp only[lm];exact wo)|(show Cl _ nA lj lu _;refine akd (.mk _ _ ((((p.s.x.tmod (p.f.ps.length:Int))+(p.f.ps.length:Int)).tmod (p.f.ps.length:Int)).toNat) ..) (h:= ?_);dsimp only[lu];exact wo)|(show Cl _ nz li lr _;refine akc (.mk _ _ ((((p.s.x.tmod (p.f.ps.length:Int))+(p.f.ps.length:Int)).tmod (p.f.ps.length:Int)).toNat) ..) (h:= ?_);dsimp only[lr];exact wo)|(refine wX true (by first|exact sd|exact ys) ?_;exact wz)|(refine wX (p.f.dn.set (((p.s.x.tmod (p.f.ps.length:Int))+(p.f.ps.length:Int)).tmod (p.f.ps.length:Int)).toNat true) (by first|exact sd|exact ys) ?_;exact wz)|fail):g:=h
 exact wz
noncomputable def WS:NN:=jV iW aff [(0,4),(1,15)]
end Go.Proofs.Tryz
namespace Go.Proofs.Tryz
open Go Go.RowKit Go.Sy
open Go.Eng hiding aj
set_option maxRecDepth 1000000
set_option linter.unusedVariables false
set_option maxHeartbeats 4000000
attribute [local irreducible] aq
def Qs:XF:=.mk 38 (.one 0) (.seq (g_ 1 [p_ 0 0 (.mv (.c (.bool false)))]) (.seq (g_ 5 [c_ 0 3 21 [i_ 0],c_ 1 4 21 [i_ 0],e_ 2 5 (.bsl 52 2 1 [.int 1 (.ofNat 0),.int 2 (.ofNat 0)] [(0,2)] [.t 4]),c_ 3 6 23 [.c (.int 1 (.ofNat 1)),.t 3,.t 5],p_ 4 1 (m_ 6)]) (.seq (g_ 4 [p_ 0 7 (m_ 1),c_ 1 8 25 [i_ 1],c_ 2 9 24 [.t 7,.t 8],p_ 3 2 (m_ 9)]) (.seq (g_ 29 [p_ 0 10 (m_ 2),c_ 1 11 26 [.t 10],p_ 2 12 (.bin 3 4 (.t 11) (i_ 0)),p_ 3 13 (m_ 12),iw 4 14 13 true (m_ 1),CC 5 15 13 true 19 [.t 14],p_ 6 16 (.pick (.t 13) (.t 15) (.c (.bool false))),p_ 7 17 (m_ 16),iw 8 18 17 true (m_ 1),CC 9 19 17 true 22 [.t 18],p_ 10 20 (.pick (.t 17) (.t 19) (.c (.bool false))),p_ 11 21 (m_ 20),iw 12 22 21 true (m_ 1),CC 13 23 21 true 12 [.t 22],iw 14 24 21 true (.bin 3 4 (.t 23) (i_ 1)),p_ 15 25 (.pick (.t 21) (.t 24) (.c (.bool false))),p_ 16 26 (m_ 25),iw 17 27 26 true (m_ 1),CC 18 28 26 true 16 [.t 27],iw 19 29 26 true (.fld false 1 1 (.t 28)),iw 20 30 26 true (.bin 3 4 (.t 29) (.c (.int 3 (.ofNat 1)))),p_ 21 31 (.pick (.t 26) (.t 30) (.c (.bool false))),p_ 22 32 (m_ 31),iw 23 33 32 true (m_ 1),CC 24 34 32 true 13 [.t 33],iw 25 35 32 true (k_ 34),iw 26 36 32 true (.bin 3 4 (.t 35) (i_ 1)),p_ 27 37 (.pick (.t 32) (.t 36) (.c (.bool false))),p_ 28 0 (m_ 37)]) .ret))))
theorem Eb:aK Tryz.prog 8 Qs=true:=by kernel_rfl
abbrev abE:=Unit
theorem OM:aA Tryz.prog 8 0 (aO (fun p:abE=>([],.leaf,0)) (fun _=>True) (fun p K=>K (.bool true) .leaf 0)):=nE (nat:=UT) Eb fun p K hpre hK=>by
 dsimp only at hpre hK ⊢
 exact wz
noncomputable def yf:NN:=bY WS OM []
attribute [local irreducible] fh cU
def encS (x:Sg):List PL:=[.sint 0 x.k,.sint 0 x.x,.sint 0 x.y,.sint 0 x.i]
def CV:XC:=(.aft (.seq (.seq (g_ 4 [p_ 0 51 (m_ 11),p_ 1 52 (m_ 2),p_ 2 53 (k_ 52),p_ 3 54 (.bin 3 0 (.t 51) (.t 53))]) (.cond (.t 54) .skip (.exit 2))) (.seq (.block 3 (.seq (g_ 6 [p_ 0 57 (m_ 9),p_ 1 58 (m_ 2),p_ 2 59 (m_ 11),p_ 3 60 (.ixs 4 (.t 58) (.t 59)),r_ 4 61 (.ld true 4 (.t 60)),c_ 5 62 10 [.t 57,.t 61]]) (.seq (g_ 9 [p_ 0 63 (m_ 9),p_ 1 64 (n_ 63),p_ 2 65 (f_ 0 64),r_ 3 66 (l_ 65),p_ 4 67 (m_ 3),p_ 5 68 (.ixs 1 (.t 66) (.t 67)),r_ 6 69 (l_ 68),c_ 7 70 12 [.t 69],p_ 8 12 (m_ 70)]) (.seq (g_ 9 [p_ 0 71 (m_ 9),p_ 1 72 (n_ 71),p_ 2 73 (f_ 0 72),r_ 3 74 (l_ 73),p_ 4 75 (m_ 3),p_ 5 76 (.ixs 1 (.t 74) (.t 75)),r_ 6 77 (l_ 76),c_ 7 78 13 [.t 77],p_ 8 13 (m_ 78)]) (.seq (.seq (g_ 19 [p_ 0 79 (m_ 12),p_ 1 80 (m_ 10),p_ 2 81 (k_ 80),p_ 3 82 (.bin 3 0 (.t 79) (.t 81)),p_ 4 83 (m_ 82),iw 5 84 83 false (m_ 12),iw 6 85 83 false (m_ 13),iw 7 86 83 false (k_ 85),iw 8 87 83 false (.bin 3 2 (.t 84) (.t 86)),p_ 9 88 (.pick (.t 83) (.c (.bool true)) (.t 87)),p_ 10 89 (m_ 88),iw 11 90 89 false (m_ 13),iw 12 91 89 false (m_ 10),iw 13 92 89 false (k_ 91),rg_ 14 93 89 false (.sls 18 (.t 90) none (some (.t 92)) none),iw 15 94 89 false (m_ 10),CC 16 95 89 false 14 [.t 93,.t 94],iw 17 96 89 false (.un 0 (.t 95)),p_ 18 97 (.pick (.t 89) (.c (.bool true)) (.t 96))]) (.cond (.t 97) (.seq (g_ 1 [p_ 0 8 (.mv (.c (.bool false)))]) .ret) .skip)) (g_ 6 [e_ 0 98 (.bsl 68 18 0 [] [] []),p_ 1 99 (m_ 13),p_ 2 100 (m_ 12),r_ 3 101 (.sls 18 (.t 99) none (some (.t 100)) none),e_ 4 102 (.app 68 18 104 (.t 98) (.t 101)),p_ 5 10 (m_ 102)])))))) (g_ 3 [p_ 0 55 (m_ 11),p_ 1 56 (.bin 0 0 (.t 55) (i_ 1)),p_ 2 11 (m_ 56)]))) [(0,[.bors 10 68 18 Ke aD,.frz 10,.can 1 [2,3,9,10,11]]),(1,[.can 1 [8]]),(2,[.can 1 []])])
def Qt:XF:=.mk 103 (.one 8) (.seq (g_ 1 [p_ 0 8 (.mv (.c (.bool false)))]) (.seq (.seq (g_ 7 [p_ 0 14 (m_ 2),p_ 1 15 (k_ 14),p_ 2 16 (.bin 3 2 (.t 15) (i_ 150)),p_ 3 17 (m_ 16),CC 4 18 17 false 8 [],iw 5 19 17 false (.un 0 (.t 18)),p_ 6 20 (.pick (.t 17) (.c (.bool true)) (.t 19))]) (.cond (.t 20) (.seq (g_ 2 [c_ 0 21 8 [],p_ 1 8 (m_ 21)]) .ret) .skip)) (.seq (g_ 11 [p_ 0 22 (m_ 0),p_ 1 23 (.bin 0 4 (.t 22) (i_ 4)),p_ 2 24 (.bin 0 0 (.t 23) (i_ 4)),p_ 3 25 (.bin 0 4 (.t 24) (i_ 4)),p_ 4 26 (.bin 0 0 (i_ 1) (.t 25)),p_ 5 27 (m_ 1),p_ 6 28 (.bin 0 4 (.t 27) (i_ 3)),p_ 7 29 (.bin 0 0 (.t 28) (i_ 3)),p_ 8 30 (.bin 0 4 (.t 29) (i_ 3)),c_ 9 31 9 [.t 26,.t 30],p_ 10 9 (m_ 31)]) (.seq (h_ 20 [p_ 0 32 (m_ 3),p_ 1 33 (m_ 9),p_ 2 34 (n_ 33),p_ 3 35 (f_ 0 34),r_ 4 36 (l_ 35),p_ 5 37 (k_ 36),p_ 6 38 (.bin 0 4 (.t 32) (.t 37)),p_ 7 39 (m_ 9),p_ 8 40 (n_ 39),p_ 9 41 (f_ 0 40),r_ 10 42 (l_ 41),p_ 11 43 (k_ 42),p_ 12 44 (.bin 0 0 (.t 38) (.t 43)),p_ 13 45 (m_ 9),p_ 14 46 (n_ 45),p_ 15 47 (f_ 0 46),r_ 16 48 (l_ 47),p_ 17 49 (k_ 48),p_ 18 50 (.bin 0 4 (.t 44) (.t 49)),p_ 19 3 (m_ 50)]) (.seq (g_ 1 [p_ 0 10 (.mv (.c .nilS))]) (.seq (.seq (g_ 1 [p_ 0 11 (.mv (i_ 0))]) (.block 2 (.pre [.can 1 [2,3,9,10,11],.bors 10 68 18 Ke aD,.frz 10,.up 3,.up 11,.can 1 [2,3,9,10,11]] (.inv 0 CV)))) (.seq (g_ 1 [p_ 0 8 (.mv (.c (.bool true)))]) .ret)))))))
theorem Ec:aK Tryz.prog 4 Qt=true:=by kernel_rfl
structure GR where
 lh:Value
 l:List Sg
 x:Int
 f:Fd
 hh:Value
 had:List Ke
 i:Int
structure aaY where
 ps:List Value
 ss:List St
noncomputable def Pw:bN:=cq bT 0 (fun p:GR=>((.cons 11 (.sy (.int 0 p.i)) (.cons 10 (.sy (.imm p.hh 18 Ke p.had aD)) (.cons 9 (.ptr 1 0) (.cons 3 (.sy (.int 0 p.x)) (.cons 2 (.sy (.imm p.lh 4 Sg p.l encS)) .nil))))),(gp p.f),5)) (fun p=>KV p.i p.x.toNat p.had p.f∧0≤p.x∧0≤p.i∧p.i≤(p.l.length:Int)∧p.l.length≤150) (fun p K=>aj fun r:aaY=>K 2 .nil (.node .leaf (some (.opq (List Value×List St) (r.ps,r.ss) bJ)) .leaf) 1)
theorem PG:bj Tryz.prog 103 1 Pw true 0 CV:=lL (nat:=yf) (fun p:GR=>((p.l.length:Int) - p.i).toNat) cy (fun _ _ _ _=>rfl) fun p K hpre hK=>by
 dsimp only at hpre hK ⊢
 obtain⟨hV,y0,y1,y2,y3⟩:=hpre
 have hO:=hV.o
 have hp0:=hO.ps
 have hn0:=hO.n
 have hx0:=hV.lt
 have hl0:=hV.len
 have nnl:=trivial
 have ys {g:Prop} (h:g:=by first|(first|omega|(have s_:=hV.step (by omega) (by assumption:PO p.f _ (cU p.f.er _) 10);omega))|(first|omega|(have s_:=hV.step (by omega) (by assumption:PO p.f _ (cU p.f.er _) 10);have q_:=s_.1.com s_.2.1;have e_:=congrArg List.length (by assumption:_=bU _);omega))|(first|(simp only[gX];omega)|(have h_:=(by assumption:_=fh _ _∧FC 800000 _);have m_:=OV.len (by omega) (by omega) h_.1 h_.2 p.x;simp only[gX];omega);done)|(have s_:=hV.step (by omega) (by assumption:PO p.f _ (cU p.f.er _) 10);have q_:=s_.1.com s_.2.1;have e_:=congrArg List.length (by assumption:_=bU _);simp only[bR,ami,List.length_drop];omega;done)|fail):g:=h
 have yd {g:Prop} (h:g:=by first|(exfalso;first|omega|(have s_:=hV.step (by omega) (by assumption:PO p.f _ (cU p.f.er _) 10);have q_:=s_.1.com s_.2.1;have e_:=congrArg List.length (by assumption:_=bU _);omega))|fail):g:=h
 have yg {g:Prop} (h:g:=by first|(exact⟨hO.fc.le (by omega),hp0,by omega,by omega⟩)|(have s_:=hV.step (by omega) (by assumption:PO p.f _ (cU p.f.er _) 10);exact⟨by assumption,by have:=s_.1.fc.w.ps;omega,zQ s_.1.fc (by have:=s_.1.fc.w.ps;omega)⟩)|(have s_:=hV.step (by omega) (by assumption:PO p.f _ (cU p.f.er _) 10);exact KV.same (by assumption) s_.2.2.2 hl0)|fail):g:=h
 have yb {g:Prop} (h:g:=by first|(have s_:=hV.step (by omega) (by assumption:PO p.f _ (cU p.f.er _) 10);exact⟨KV.next s_.1 s_.2.1 (by assumption:_=bU _) (by assumption:_=cL _) (by first|rfl|exact(by assumption:_=[]).symm),y0,by omega,by omega,y3⟩)|fail):g:=h
 have yx {g:Prop} (h:g:=by first|(exact wW hK fun r hz=>by(try dsimp only[oL,oN]at hz);exact hz)|fail):g:=h
 have yq {g:Prop} (h:g:=by first|(refine zT (.mk _ _ p.x.toNat ..) (h:= ?_);dsimp only[ix,nX,qx];exact wo)|(refine Jf (.mk _ _ p.x.toNat ..) (h:= ?_);dsimp only[jr,pZ,vb];exact wo)|(exact jM (.mk _ _ _ (.mk ..) ..))|fail):g:=h
 exact wz
structure abF where
 fo:Int
 mo:Int
 lh:Value
 l:List Sg
 x:Int
structure aaZ where
 ps:List Value
 ss:List St
theorem na_keeps:dM Tryz.prog 4 1 (aO (fun p:abF=>([.ptr 0 0,.sy (.int 0 p.fo),.sy (.int 0 p.mo),.sy (.imm p.lh 4 Sg p.l encS),.sy (.int 0 p.x)],(.node .leaf (some (.opq (List Value×List St) (([]:List Value),([]:List St)) bJ)) .leaf),1)) (fun _=>True) (fun p K=>aj fun r:aaZ=>K (.bool true) (.node .leaf (some (.opq (List Value×List St) (r.ps,r.ss) bJ)) .leaf) 1)):=KR (nat:=yf) Ec (dB PG) fun p K hpre hK=>by
 dsimp only at hpre hK ⊢
 have t1:=k4 p.fo
 have t2:=k3 p.mo
 have nnx:=trivial
 have ys {g:Prop} (h:g:=by first|(decide)|(first|(simp only[gX];omega)|(have h_:=(by assumption:_=fh _ _∧FC 800000 _);have m_:=OV.len (by omega) (by omega) h_.1 h_.2 p.x;simp only[gX];omega);done)|(have h_:=(by assumption:_=fh _ _∧FC 800000 _);have m_:=OV.len (by omega) (by omega) h_.1 h_.2 p.x;exact m_.1)|fail):g:=h
 have yg {g:Prop} (h:g:=by first|(exact⟨by omega,by omega,by omega,by omega⟩)|(have m_:=KV.made (by omega) (by omega) (hi).1 (hi).2 p.x;exact⟨m_.1,m_.2,by omega,by omega,by omega⟩)|fail):g:=h
 have ye {g:Prop} (h:g:=by first|(exact ug hK (.mk [] [] ..))|fail):g:=h
 have yq {g:Prop} (h:g:=by first|(refine cb () (h:= ?_);exact wo)|(refine cb (.mk _ _ _ (.mk ..) _ [] ..) (h:= ?_);exact wo)|fail):g:=h
 exact wz
end Go.Proofs.Tryz
namespace Go.Proofs.YtjhpjjbnojbikaaGreat.seatKeeps
open Go Go.RowKit Go.Eng Go.Sy Go.ChangeShapes Go.WideShapes Go.ChangeAt
open Go.Proofs.Tryz (Sg)
set_option linter.unusedVariables false
set_option maxRecDepth 100000
theorem Yv:jL Tryz.prog 20 28=some [3,3,3,3]:=by kernel_rfl
theorem aex {H:Type} {en:TypeId×Value→H} {W:World} {fuel:Nat} {cs:List Value} {x:DataW H×List MemPlace} (h:DataW.trod en Tryz.prog W 0 (fun _=>true) true fuel 22 cs=some x):
  ∃(ao:Option Addr) (cap:Nat) (t:List Sg),cs=[.slice ao t.length cap]∧RdF (fun x=>(Go.Proofs.Tryz.encS x).map aQ) 4 (GS.of W).M ao cap t:=by
 rcases Go.Deep.open_slice Tryz.underlying22 h with⟨rfl,_⟩|⟨a,len,cap,m,n,D,Pl,rfl,_,hl,hm,rfl,_,hel⟩
 ·exact⟨none,0,[],rfl,RdF.nil _ _ _ _⟩
 ·obtain⟨t,ht,hp⟩:=FG (p:=fun i (x:Sg)=>W.cells? 0 (a.add (i*4)) 4=some ((Go.Proofs.Tryz.encS x).map aQ)) len (fun i hi=>by
   obtain⟨cs2,h1,h2⟩:=hel i (by first|omega|(simp;omega))
   obtain⟨hlen,hleaf⟩:=If 20 28 _ Yv _ _ _ h2
   obtain⟨c0,c1,c2,c3,rfl⟩:∃c0 c1 c2 c3,cs2=[c0,c1,c2,c3]:=by
    match cs2,hlen with
    |[c0,c1,c2,c3],_=>exact⟨c0,c1,c2,c3,rfl⟩
   obtain⟨z0,rfl,w0⟩:=oU Tryz.underlying3 (hleaf 0 _ _ rfl rfl)
   obtain⟨z1,rfl,w1⟩:=oU Tryz.underlying3 (hleaf 1 _ _ rfl rfl)
   obtain⟨z2,rfl,w2⟩:=oU Tryz.underlying3 (hleaf 2 _ _ rfl rfl)
   obtain⟨z3,rfl,w3⟩:=oU Tryz.underlying3 (hleaf 3 _ _ rfl rfl)
   exact⟨⟨z0,z1,z2,z3⟩,h1⟩)
  subst ht
  exact⟨some a,_,t,rfl,aer (base:=0) hl hm (by decide) (fun _=>rfl) hp⟩
theorem alk {M:dS} {ao:Option Addr} {cap:Nat} {t:List Sg} (h:RdF (fun x=>(Go.Proofs.Tryz.encS x).map aQ) 4 M ao cap t):OkP M (.imm (.slice ao t.length cap) 4 Sg t Go.Proofs.Tryz.encS):=
 .imm ao cap rfl h.le h.cap (by decide) h.addr (fun x _=>rfl) (fun x _ p hp=>by
  simp only[Go.Proofs.Tryz.encS,List.mem_cons,List.not_mem_nil,or_false]at hp
  rcases hp with rfl|rfl|rfl|rfl<;>exact .sint _ _) h.row
theorem own:ownKnob Tryz.prog.godebug=none:=by kernel_rfl
theorem YA:laidOutB Tryz.prog=true:=by kernel_rfl
theorem ak5 (a0:Int) (a1:Int) (o2:Option Addr) (k2:Nat) (t2:List Sg) (a3:Int) (w:World) (h2:RdF (fun x=>(Go.Proofs.Tryz.encS x).map aQ) 4 (GS.of w).M o2 k2 t2):Calls Tryz.prog 4 #[.int .i64 a0,.int .i64 a1,.slice o2 t2.length k2,.int .i64 a3] w (Ret (GS.of w) [] fun _ v=>v= .bool true):=by
 let K:AV→T→Nat→Bool:=fun v _ _=>aq (v= .bool true)
 have hE:cK ⟨fun _=>.bool true,(GS.of w).M⟩:=⟨fun i=>rfl,trivial⟩
 obtain⟨D,_,c,rfl,_,hh,_,_⟩:=(Sim.start (E:=⟨fun _=>.bool true,(GS.of w).M⟩) (G:=GS.of w) rfl (Holds.start w)).ex
 have hs:Sim ⟨fun _=>.bool true,(GS.of w).M⟩ (fun i=>if i=0 then some ⟨0,0⟩ else none) (GS.of w) [] (Tryz.OQ [] []) 1 w:=by
  refine⟨⟨D,_,c,rfl,fun i α x Φ hi=> ?_,hh,fun i o hi=> ?_,fun i j e f o o' hi hj he hf hb=> ?_⟩,MLe.refl _,fun i hi=>if_neg (by omega)⟩
  ·obtain⟨rfl,ho⟩:=Tryz.OQ_get hi
   cases ho
   exact⟨_,MLe.refl _,rfl,trivial⟩
  ·obtain⟨rfl,rfl⟩:=Tryz.OQ_get hi
   exact⟨⟨0,0⟩,rfl,.inr ⟨rfl,trivial⟩⟩
  ·obtain⟨rfl,rfl⟩:=Tryz.OQ_get hi
   cases hb
 have hd:ay ⟨fun _=>.bool true,(GS.of w).M⟩ (fun i=>if i=0 then some ⟨0,0⟩ else none) [.ptr 0 0,.sy (.int 0 a0),.sy (.int 0 a1),.sy (.imm (.slice o2 t2.length k2) 4 Sg t2 Go.Proofs.Tryz.encS),.sy (.int 0 a3)]=some [.pointer (some ⟨0,0,none⟩),.int .i64 a0,.int .i64 a1,.slice o2 t2.length k2,.int .i64 a3]:=by
  simp[ay,den,aJ,fy (E:=⟨fun _=>.bool true,(GS.of w).M⟩) (alk h2),aQ,ca]
 refine Tryz.na_keeps [.ptr 0 0,.sy (.int 0 a0),.sy (.int 0 a1),.sy (.imm (.slice o2 t2.length k2) 4 Sg t2 Go.Proofs.Tryz.encS),.sy (.int 0 a3)] [.pointer (some ⟨0,0,none⟩),.int .i64 a0,.int .i64 a1,.slice o2 t2.length k2,.int .i64 a3] ⟨fun _=>.bool true,(GS.of w).M⟩ _ (GS.of w) [] (Tryz.OQ [] []) 1 w K _ hE hs hd ?_ ?_
 ·exact aY ⟨a0,a1,.slice o2 t2.length k2,t2,a3⟩ (aN rfl (aN trivial (aR fun r=>prB_true.2 rfl)))
 ·intro v M' nx' E' ρ' w' z hk h1 h2 h3 h4 h5
  obtain⟨G',g1,g2,g3⟩:=h4.holds
  refine⟨z,G',rfl,g1,g2,?_⟩
  have:=prB_true.1 hk
  subst this
  simpa[den] using h5.symm
set_option maxRecDepth 100000 in
theorem afV (os:Os) (started:os.Started) (H:Type) (enc:TypeId×Value→H):
  ReturnsInHanded {} Tryz.checked os 4 .any (Rows.seatKeepsSpec.pre6 enc Tryz.prog Tryz.f4 Rows.seatKeepsRow.domain false) (Rows.seatKeepsSpec.post enc Tryz.prog Tryz.f4 false true false false):=by
 refine returnsInHanded_of_change (C:=Tryz.checked) own started (by kernel_rfl) Tryz.func4
  (ChangeSpec.witness6 (enc:=enc) (C:=Tryz.checked) false ⟨#[],#[.int .i64 0,.int .i64 0,.slice none 0 0,.int .i64 0],[]⟩ 8 (by kernel_rfl) (by kernel_rfl) (by kernel_rfl) (by kernel_rfl)) ?_
 intro W base args ds gs before hval0 hW hcnd _
 have hval:∀(j:Nat) t v,Tryz.f4.params[j]?=some t→args[j]?=some v→Value.okWide Tryz.prog W .any base t v:=hval0
 have hW':=hW
 obtain⟨p,q,hA0,hV,rfl,hfz,hnd⟩:=hW
 have hA:DataW.TrodAll enc Tryz.prog W 0 (fun _=>true) true Tryz.f4.params.toList args.toList ds p:=hA0
 rw[Tryz.params4]at hA hval
 obtain⟨v0,vs0,d0,ds0,p0,q0,hargs,rfl,rfl,h0,r0⟩:=trodAll_cons hA
 obtain⟨v1,vs1,d1,ds1,p1,q1,rfl,rfl,rfl,h1,r1⟩:=trodAll_cons r0
 obtain⟨v2,vs2,d2,ds2,p2,q2,rfl,rfl,rfl,h2,r2⟩:=trodAll_cons r1
 obtain⟨v3,vs3,d3,ds3,p3,q3,rfl,rfl,rfl,h3,r3⟩:=trodAll_cons r2
 obtain⟨rfl,rfl,rfl⟩:=trodAll_nil r3
 obtain rfl:args= #[v0,v1,v2,v3]:=by cases args;simp_all
 obtain⟨rfl,rfl⟩:=trodVars_none hV
 obtain⟨a0,rfl,rfl,rfl,w0⟩:=open_int Tryz.underlying3 (hval 0 3 v0 rfl rfl) h0
 obtain⟨a1,rfl,rfl,rfl,w1⟩:=open_int Tryz.underlying3 (hval 1 3 v1 rfl rfl) h1
 obtain⟨b2,len2,cap2,rfl⟩:=okWide_slice Tryz.underlying22 (hval 2 22 v2 rfl rfl)
 have j2:=h2
 have lt2:∀x∈p2,x.block<W.heap.size:=by obtain⟨m,hm⟩:=j2;exact DataW.trod_lt m _ _ _ hm
 obtain⟨fuel2,hf2⟩:=h2
 obtain⟨ao2,ca2,t2,hc2,hr2⟩:=aex hf2
 simp only[Value.cells,List.cons.injEq,Value.slice.injEq,and_true]at hc2
 obtain⟨rfl,rfl,rfl⟩:=hc2
 obtain⟨a3,rfl,rfl,rfl,w3⟩:=open_int Tryz.underlying3 (hval 3 3 v3 rfl rfl) h3
 clear hA0 hval0
 simp only[List.append_nil]at hW'
 refine(ak5 a0 a1 b2 cap2 t2 a3 W hr2).mono fun e W2 ⟨v,G2,he,hG,hh,hv⟩=> ?_
 subst he;subst hv
 have bel:Below W.heap.size W W2:=Holds.below hG hh
 exact⟨_,rfl,_,_,_,[],_,[],hW',trodAll_mk1 (shut_bool Tryz.underlying4 _),(trodAll_cons_mk (shut_int Tryz.underlying3 w0) (trodAll_cons_mk (shut_int Tryz.underlying3 w1) (trodAll_cons_mk (Below.trod YA (by kernel_rfl) (of_decide_eq_true (by kernel_rfl)) j2 bel lt2) (trodAll_cons_mk (shut_int Tryz.underlying3 w3) trodAll_mk0)))),rfl,bel.frame _,fun h=>by cases h⟩
theorem alj:Rows.seatKeepsRow.holds Tryz.pinned (OpenSpec.ofChange Rows.seatKeepsSpec):=
 OpenClaim.holds_of_wide 4 Tryz.f4 rfl rfl rfl rfl rfl rfl rfl ⟨rfl,rfl,rfl,rfl,rfl⟩ rfl rfl rfl rfl rfl (by kernel_rfl) Tryz.func4 (by kernel_rfl)
  (of_decide_eq_true (by kernel_rfl)) (by unfold Func.isWrapper;first|(rw[if_pos (by decide+kernel)];kernel_rfl)|(rw[if_neg (by decide+kernel)];exact⟨rfl,rfl⟩))
  (fun os started H enc _=>afV os started H enc)
theorem holds:Rows.SeatKeepsSaid:=alj
#print axioms holds
end Go.Proofs.YtjhpjjbnojbikaaGreat.seatKeeps
