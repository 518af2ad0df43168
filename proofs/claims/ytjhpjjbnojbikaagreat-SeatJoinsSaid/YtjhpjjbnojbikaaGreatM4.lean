/- Definitions and lemmas of the proof, without a condition of their own. -/
import Derived.Test.YtjhpjjbnojbikaaGreatM4c
import Derived.KernelRfl
set_option linter.unusedSimpArgs false
set_option linter.unusedVariables false
open List renaming eq_nil_of_length_eq_zero→akG,length_append→akk,length_cons→akl,length_drop→akJ,length_map→akm,length_nil→akn,length_take→akA,map_append→aky
open Nat renaming le_refl→akB
open Option.some renaming inj→akH
namespace Go.Proofs.Tryz
open Go Go.RowKit Go.Sy
open Go.Eng hiding aj
set_option maxRecDepth 1000000
set_option linter.unusedVariables false
set_option maxHeartbeats 4000000
attribute [local irreducible] aq
noncomputable def xX:NN:=fK xY Of [(0,4),(1,20),(2,15),(3,15)] (fun us M=>GP M 0 5)
noncomputable def ft_heedG':NV (aA [] [] [] 0x68b9b38717a10bf1af6c0f4f8298eedaadb67f8e28700ce000b4eef26b0e9a3ccc5cf1aaea2a00d92a013341921ae2ad1357fa3ffc2711226c6023d73d603a724b9b9cdea8d37fea25):=⟨_,by conv=>rhs;reduce⟩
noncomputable abbrev PF:XF:=ft_heedG'.1
theorem DJ:aK Tryz.prog 74 PF=true:=by kernel_rfl
structure aau where
 q:Nat→Value
 fr:Int
 m:Mg
theorem NZ:aB Tryz.prog 74 1 (aO (fun p:aau=>([.ptr 0 0,eu p.fr,jU p.m.k p.m.N p.m.fr p.m.c p.m.b p.m.acc [] p.m.vn p.m.vh p.m.vl p.m.pn p.m.pl (p.m.has=true) p.m.mh p.m.ml p.m.h p.m.l p.m.th p.m.tl],(.node .leaf (some (o_C p.q)) .leaf),1)) (fun p=>cE p.m.er∧0≤p.fr∧p.fr<8) (fun p K=>K (.bool true) (.node .leaf (some (o_C p.q)) .leaf) 1)):=nE (nat:=xX) DJ fun p K hpre hK=>by
 dsimp only at hpre hK ⊢
 obtain⟨hM,fr1,fr2⟩:=hpre
 have hk:=uJ hM
 dsimp only[Mg.er]at hk
 have yd {g:Prop} (h:g:=by first|(exfalso;omega)|fail):g:=h
 have yg {g:Prop} (h:g:=by first|(exact hM)|fail):g:=h
 exact wz
noncomputable def xU:NN:=iD xX NZ [(0,4),(1,15),(2,15)] [0,1,2,3,4,5,6,8,9,10,11,12,13,14,15,16,17,18,19,20]
noncomputable def ft_noneG':NV (aA [] [] [] 0x1b5d22f1e09d115a041c2c1f1c069494ec59424575):=⟨_,by conv=>rhs;reduce⟩
noncomputable abbrev Pw:XF:=ft_noneG'.1
theorem DA:aK Tryz.prog 32 Pw=true:=by kernel_rfl
structure aam where
 q:Nat→Value
 me:Int
theorem NR:aB Tryz.prog 32 1 (aO (fun p:aam=>([.ptr 0 0],(.node .leaf (some (rQ p.q p.me)) .leaf),1)) (fun p=>0≤p.me∧p.me<8) (fun p K=>K (.bool false) (.node .leaf (some (rQ p.q p.me)) .leaf) 1)):=nE (nat:=xU) DA fun p K hpre hK=>by
 dsimp only at hpre hK ⊢
 obtain⟨g1,g2⟩:=hpre
 have yd {g:Prop} (h:g:=by first|(exfalso;omega)|fail):g:=h
 exact wz
noncomputable def xP:NN:=iD xU NR [(0,4)] [0,1,2,3,4,5,6,7,10,11,12,13,14,15,16,17,18,19,20]
noncomputable def ft_inG':NV (aA [] [] [] 0xf43ab8fdc74fac0dfdbc6de665ea156e083c553e2caf768):=⟨_,by conv=>rhs;reduce⟩
noncomputable abbrev afd:XF:=ft_inG'.1
theorem Lh:aK Tryz.prog 19 afd=true:=by kernel_rfl
structure aji where
 q:Nat→Value
 N:Int
 me:Int
theorem adY:aB Tryz.prog 19 1 (aO (fun p:aji=>([.ptr 0 0],(.node .leaf (some (o_B p.q p.N p.me)) .leaf),1)) (fun p=>0<p.N∧0≤p.me∧p.me<8) (fun p K=>K (.bool true) (.node .leaf (some (o_B p.q p.N p.me)) .leaf) 1)):=nE (nat:=xP) Lh fun p K hpre hK=>by
 dsimp only at hpre hK ⊢
 obtain⟨g1,g2,g3⟩:=hpre
 have yg {g:Prop} (h:g:=by first|(first|exact mb|omega)|fail):g:=h
 exact wz
noncomputable def EK:NN:=iD xP adY [(0,4)] [0,2,3,4,5,6,7,10,11,12,13,14,15,16,17,18,19,20]
noncomputable def ft_inoG':NV (aA [] [] [] 0x7595d620173f2d208c0765ae84f241fae6a9a57):=⟨_,by conv=>rhs;reduce⟩
noncomputable abbrev XQ:XF:=ft_inoG'.1
theorem HZ:aK Tryz.prog 19 XQ=true:=by kernel_rfl
structure ahk where
 s:So
theorem VX:aB Tryz.prog 19 5 (aO (fun p:ahk=>([.ptr 0 0],(da p.s),5)) (fun p=>0≤p.s.me∧p.s.me<8) (fun p K=>K (.bool false) (da p.s) 5)):=nE (nat:=EK) HZ fun p K hpre hK=>by
 dsimp only at hpre hK ⊢
 obtain⟨g1,g2⟩:=hpre
 have yg {g:Prop} (h:g:=by first|(first|exact mb|omega)|fail):g:=h
 exact wz
noncomputable def AC:NN:=fK EK VX [(0,4)] (fun us M=>Hy M 0 1)
def eM (m l:List Int) (p:Int):List Int:=if p∈m∧¬p∈l then l++[p] else l
theorem kH {m l:List Int} {p:Int} (h:¬p∈m∨p∈l):l=eM m l p:=by unfold eM;rw[if_neg fun g=>h.elim (fun h=>h g.1) g.2]
theorem sV {m l:List Int} {p:Int} (h:p∈m) (h2:¬p∈l):l++[p]=eM m l p:=by unfold eM;rw[if_pos ⟨h,h2⟩]
noncomputable def ft_goesG':NV (aA [] [] [] 0xc1af9114aa4561385fb5e5cdb932c6c06b1c842007f):=⟨_,by conv=>rhs;reduce⟩
noncomputable abbrev PJ:XF:=ft_goesG'.1
theorem DN:aK Tryz.prog 39 PJ=true:=by kernel_rfl
structure aay where
 q:Nat→Value
 N:Int
 mh:Value
 m:List Int
 go:List Int
 p:Int
structure ZI where
 go:List Int
theorem Ob:aB Tryz.prog 39 1 (aO (fun p:aay=>([.ptr 0 0,eu p.p],(.node (.node .leaf (some (aD p.go)) .leaf) (some (o_y p.N p.mh p.m p.q p.go.length)) .leaf),2)) (fun p=>p.m.length≤8∧p.go.length≤8) (fun p K=>aj fun r:ZI=>iP (r.go=eM p.m p.go p.p) (K (.tup []) (.node (.node .leaf (some (aD r.go)) .leaf) (some (o_y p.N p.mh p.m p.q r.go.length)) .leaf) 2) true)):=nE (nat:=AC) DN fun p K hpre hK=>by
 dsimp only at hpre hK ⊢
 obtain⟨g1,g2⟩:=hpre
 have nnq:=trivial
 have ys {g:Prop} (h:g:=by first|(simp[bU];omega;done)|fail):g:=h
 have yp {g:Prop} (h:g:=by first|(first|exact kH (.inl (by assumption))|exact kH (.inr (by first|assumption|exact Classical.not_not.1 (by assumption)))|exact sV (by first|assumption|exact Classical.not_not.1 (by assumption)) (by assumption))|fail):g:=h
 have yq {g:Prop} (h:g:=by first|(refine wX [_] (by first|exact sd|exact ys) ?_;exact wz)|fail):g:=h
 exact wz
noncomputable def mB:NN:=iD AC Ob [(0,4),(1,15)] [3,4,5,6,7,8,9,10,11,12,14,15,16,17,18,19,20]
def tR (s:St) (fr:Int) (m:Mx):St×List (Int×Mx):=if 0<s.N then
  let r:=eU s.N s.me s.m s.log s.ba s.com s.sh s.se fr m
  ({s with log:=r.1.1,com:=r.1.2},r.2)
 else (s,oZ s.me s.se fr m)
def bm (now:Int) (s:St) (fr:Int) (m:Mx):St×List (Int×Mx):=
 if m.k=10 then (if s.se<m.vn then bV now s m.vn m.vl m.l else s,[]) else
 if m.k=3∧¬m.N<s.N then tR s fr m else
 if 0<s.N∧m.N<s.N∧(m.k=3∨m.k=4∨m.k=5∨m.k=9) then (s,cI s.me (BB s) [fr]) else
 if 0<s.N∧m.k=11 then ({s with jo:=(dw s.N s.me s.m s.log s.ba s.jo m.pn).1},(dw s.N s.me s.m s.log s.ba s.jo m.pn).2) else
 if ¬0<s.N∨¬m.N=s.N then (if 0<s.N∧m.k=12 then {s with go:=eM s.m s.go m.pn} else s,[]) else fZ now s fr m
section
variable {now fr:Int} {s:St} {m:Mx} {y:St×List (Int×Mx)}
theorem zD (hk:m.k=10):bm now s fr m=(if s.se<m.vn then bV now s m.vn m.vl m.l else s,[]):=by unfold bm;rw[if_pos hk]
theorem ae4 (hk:m.k=3) (h:¬m.N<s.N):bm now s fr m=tR s fr m:=by unfold bm;rw[if_neg (by omega),if_pos ⟨hk,h⟩]
theorem ae2 (hN:0<s.N) (ho:m.N<s.N) (hk:m.k=3∨m.k=4∨m.k=5∨m.k=9):bm now s fr m=(s,cI s.me (BB s) [fr]):=by
 unfold bm
 rw[if_neg (by omega),if_neg (fun g=>g.2 ho),if_pos ⟨hN,ho,hk⟩]
theorem aiy (hN:0<s.N) (hk:m.k=11):bm now s fr m=({s with jo:=(dw s.N s.me s.m s.log s.ba s.jo m.pn).1},(dw s.N s.me s.m s.log s.ba s.jo m.pn).2):=by
 unfold bm
 rw[if_neg (by omega),if_neg (by omega),if_neg (by omega),if_pos ⟨hN,hk⟩]
theorem HB (h10:¬m.k=10) (h3:¬(m.k=3∧¬m.N<s.N)) (h:¬0<s.N∨(¬m.N=s.N∧¬(m.N<s.N∧(m.k=3∨m.k=4∨m.k=5∨m.k=9))∧¬m.k=11)):bm now s fr m=(if 0<s.N∧m.k=12 then {s with go:=eM s.m s.go m.pn} else s,[]):=by
 unfold bm
 rw[if_neg h10,if_neg h3,if_neg (by omega),if_neg (by omega),if_pos (by omega)]
theorem ae3 (hN:0<s.N) (he:m.N=s.N) (hk:4≤m.k∧m.k≤9):bm now s fr m=fZ now s fr m:=by
 unfold bm
 rw[if_neg (by omega),if_neg (by omega),if_neg (by omega),if_neg (by omega),if_neg (by omega)]
end
section
variable {now fr:Int} {s:Si} {u:So} {q:Option Pq} {m:Mg} {y:St×List (Int×Mx)} {o:List Ou}
theorem KR (hk:m.k=10) (h:s.se<m.vn) {z:St} (hy:z=bV now (s.er none) m.vn m.vl m.l):(z,([]:List Ou).map Ou.er)=bm now (s.er q) fr m.er:=by rw[zD (m:=m.er) hk,if_pos (show(s.er q).se<m.er.vn from h),hy];rfl
theorem KS (hk:m.k=10) (h:¬s.se<m.vn):(s.er q,([]:List Ou).map Ou.er)=bm now (s.er q) fr m.er:=by rw[zD (m:=m.er) hk,if_neg (show¬(s.er q).se<m.er.vn from h)];rfl
theorem ae1 (hN:0<s.N) (hk:m.k=3) (h:¬m.N<s.N) {lg:List Ke} {cm:Int} (hy:((lg,cm),o.map Ou.er)=eU s.N s.me s.m s.log s.ba s.com s.sh s.se fr m.er):(({s with log:=lg,com:=cm}:Si).er q,o.map Ou.er)=bm now (s.er q) fr m.er:=by
 rw[ae4 (s:=s.er q) (m:=m.er) hk h]
 unfold tR
 rw[if_pos (show 0<(s.er q).N from hN),show eU (s.er q).N (s.er q).me (s.er q).m (s.er q).log (s.er q).ba (s.er q).com (s.er q).sh (s.er q).se fr m.er=((lg,cm),o.map Ou.er) from hy.symm];rfl
theorem KO {N me fr ba:Int} {m:List Int} {log:List Ke} {z:Mg} (hf:¬fr=me) (hz:z.er={aE 10 with vn:=N,vl:=m,l:=log.take ba.toNat}):[(⟨fr,z⟩:Ou)].map Ou.er=cI me {aE 10 with vn:=N,vl:=m,l:=log.take ba.toNat} [fr]:=by
 rw[←Ec hf,←hz];rfl
theorem KP (hN:0<s.N) (ho:m.N<s.N) (hk:m.k=3∨m.k=4∨m.k=5∨m.k=9) (h:o.map Ou.er=cI s.me {aE 10 with vn:=s.N,vl:=s.m,l:=s.log.take s.ba.toNat} [fr]):(s.er q,o.map Ou.er)=bm now (s.er q) fr m.er:=by
 rw[ae2 (s:=s.er q) (m:=m.er) hN ho hk,h];rfl
theorem Tw (hN:0<s.N) (hk:m.k=11) {jo:List Int} (hy:(jo,o.map Ou.er)=dw s.N s.me s.m s.log s.ba s.jo m.pn):(({s with jo:=jo}:Si).er q,o.map Ou.er)=bm now (s.er q) fr m.er:=by
 rw[aiy (s:=s.er q) (m:=m.er) hN hk,show dw (s.er q).N (s.er q).me (s.er q).m (s.er q).log (s.er q).ba (s.er q).jo m.er.pn=(jo,o.map Ou.er) from hy.symm];rfl
theorem Tv (hN:0<s.N) (hk:m.k=12) (h0:m.N=0) {go:List Int} (hy:go=eM s.m s.go m.pn):(({s with go:=go}:Si).er q,([]:List Ou).map Ou.er)=bm now (s.er q) fr m.er:=by
 have hk2:m.er.k=12:=hk
 have h02:m.er.N=0:=h0
 have hN2:0<(s.er q).N:=hN
 rw[HB (s:=s.er q) (m:=m.er) (by omega) (by omega) (by omega),if_pos ⟨hN2,hk2⟩,hy];rfl
theorem Fb (h10:¬m.k=10) (h3:¬(m.k=3∧¬m.N<s.N)) (hN:0<s.N) (h:¬m.N=s.N∧¬(m.N<s.N∧(m.k=3∨m.k=4∨m.k=5∨m.k=9))∧¬m.k=11∧¬m.k=12):(s.er q,([]:List Ou).map Ou.er)=bm now (s.er q) fr m.er:=by
 rw[HB (s:=s.er q) (m:=m.er) h10 h3 (.inr ⟨h.1,h.2.1,h.2.2.1⟩),if_neg (fun g=>h.2.2.2 g.2)];rfl
theorem KQ (hN:0<s.N) (he:m.N=s.N) (hk:4≤m.k∧m.k≤9) (hy:y=fZ now (s.er q) fr m.er):y=bm now (s.er q) fr m.er:=by rw[ae3 (s:=s.er q) (m:=m.er) hN he hk,hy]
theorem ae5 (hk:m.k=10) (h:u.se<m.vn) {z:St} (hy:z=bV now u.er m.vn m.vl m.l):(z,([]:List Ou).map Ou.er)=bm now u.er fr m.er:=by rw[zD (m:=m.er) hk,if_pos (show u.er.se<m.er.vn from h),hy];rfl
theorem ae6 (hk:m.k=10) (h:¬u.se<m.vn):(u.er,([]:List Ou).map Ou.er)=bm now u.er fr m.er:=by rw[zD (m:=m.er) hk,if_neg (show¬u.er.se<m.er.vn from h)];rfl
theorem ajU (hk:m.k=3) (h:¬m.N<0) (hy:o.map Ou.er=oZ u.me u.se fr m.er):(u.er,o.map Ou.er)=bm now u.er fr m.er:=by
 rw[ae4 (s:=u.er) (m:=m.er) hk h,hy]
 unfold tR
 rw[if_neg (show¬0<u.er.N from by show¬(0:Int)<0;decide)];rfl
theorem aiz (h10:¬m.k=10) (h3:¬(m.k=3∧¬m.N<0)):(u.er,([]:List Ou).map Ou.er)=bm now u.er fr m.er:=by
 have hN:¬0<u.er.N:=by show¬(0:Int)<0;decide
 rw[HB (s:=u.er) (m:=m.er) h10 h3 (.inl hN),if_neg (fun g=>hN g.1)];rfl
end
theorem On {m:Mg} (h:cE m.er) (e:m.k=10):0<m.vn∧NL m.vl∧¬m.vl=[]∧m.l.length≤400:=by
 have z:=AW h e
 unfold IS at z
 exact⟨z.2.2.2.2.2.2.2.2.2.2.1,z.2.2.2.2.2.2.2.2.2.2.2.1,z.2.2.2.2.2.2.2.2.2.2.2.2.1,z.2.2.2.2.2.2.2.2.2.2.2.2.2.2⟩
theorem Hl {m:Mg} (h:cE m.er) (e:m.k=11):0≤m.pn∧m.pn<8:=by
 have z:=uL h e
 unfold CU at z
 simp only[Mg.er]at z;omega
theorem Tp {m:Mg} (h:cE m.er) (e:m.k=11):m.pl=1:=by
 have z:=uL h e
 unfold CU at z
 simp only[Mg.er]at z;omega
theorem ww {m:Mg} (h:cE m.er) (e:m.k=12):m.N=0:=by
 have z:=AU h e
 unfold CT at z
 simp only[Mg.er]at z;omega
theorem To {m:Mg} (h:cE m.er) (e:m.k=12):m.pl=1:=by
 have z:=AU h e
 unfold CT at z
 simp only[Mg.er]at z;omega
noncomputable def bd_hzn':NV (cS [] [] [] 0x82cb683adf704107bb0f279dca6035b9ec9855b7ad668dddff1bae38d):=⟨_,by conv=>rhs;reduce⟩
noncomputable abbrev CF:XC:=bd_hzn'.1
noncomputable def bd_htn':NV (fun e0=>cS [e0] [] [] 0xa05485ff8a5d70fe05cdd6e4034bd63b761529df5079e1af201cbd64736d5a1c55f55a5813c21060d0bc0939323ad37d7369428cf989257f8f8):=⟨_,by conv=>rhs;reduce⟩
noncomputable abbrev CG:XC:=bd_htn'.1 (eB 118 33 cB)
noncomputable def ft_hearn':NV (fun e0 b0 b1=>aA [e0] [] [b0,b1] 0x6ecebcb2eff6bdcf9531eabc753e030cd8c2eff9c2450228b06f408a40e6c38b7909add4f255d01e81f5b2af17696f4e9548483e1e1f0cc39d7dce7985ebe392d810e18ddaec21035f741901184926d7920eaddede43c31408a9bd850fa8a3fc6f5403369f3ac2e93bf4b723426763640af6e340cf103dec0fb9e784620f76885d62fb2d5a42ada477184df4bdd952b287c1b0cbbb899aa036e58c3adba37031668cda3f479775443123afda80486d01216793d9fdb76f736620761d5f502eb15938fd44ac50e4b6e97920f8eff7e1e970f5ee46e7892f051badf390ef8b261e67767caf42f028bb9ad91e16541d13a721f2b8):=⟨_,by conv=>rhs;reduce⟩
noncomputable abbrev PI:XF:=ft_hearn'.1 (eB 118 33 cB) CF CG
theorem DM:aK Tryz.prog 51 PI=true:=by kernel_rfl
structure ajm where
 s:Si
 now:Int
 fr:Int
structure aiY where
 o:List Ou
structure ajk where
 s:Si
 now:Int
 fr:Int
 m:Mg
structure aiW where
 z:Prop
noncomputable def Bh:bM:=ce (ce bQ 2 (fun p:ajm=>((.cons 6 (.ptr 1 0) (.cons 0 (.ptr 0 0) .nil)),(.node (.node (.node (.node .leaf (some (hZ p.s.be)) .leaf) (some (eL p.s.prm p.s.aa p.s.avh p.s.av p.s.ath p.s.atl)) .leaf) (some (iC p.fr)) (.node (.node .leaf (some (.kmap true true false (Int×Int) p.s.hs aY aX)) .leaf) (some (aD p.s.jo)) .leaf)) (some (EA p.s.N p.s.mh p.s.m 2 3 p.s.sa p.s.me p.s.th p.s.met 4 p.s.su.length 5 p.s.jo.length 6 p.s.go.length (p.s.wa=true) p.s.se p.s.ro p.s.tr p.s.wh p.s.was 7 p.s.be.length p.s.wc)) (.node (.node (.node .leaf (some (bu p.s.log)) .leaf) (some (aD p.s.su)) .leaf) (some (bZ p.s.N p.s.rh p.s.m p.s.me 8 p.s.log.length p.s.ba p.s.com (p.s.sh=true) 9)) (.node .leaf (some (aD p.s.go)) .leaf))),10)) (fun p=>p.s.log.length≤400∧0≤p.s.ba∧p.s.ba≤(p.s.log.length:Int)∧p.s.m.length≤8) (fun p K=>aj fun r:aiY=>iP (r.o.map Ou.er=cI p.s.me {aE 10 with vn:=p.s.N,vl:=p.s.m,l:=p.s.log.take p.s.ba.toNat} [p.fr]) (K 0 (.cons 8 (.sy (.prow 1 r.o.length)) .nil) (fA p.s p.s p.s r.o) 10) true)) 1 (fun p:ajk=>((.cons 29 (.sy (.int 1 p.m.k)) (.cons 9 (.sy (.bool (p.m.N<p.s.N))) (.cons 7 (.ptr 2 0) (.cons 6 (.ptr 1 0) (.cons 1 (.sy (.int 0 p.now)) (.cons 0 (.ptr 0 0) .nil)))))),(.node (.node (.node (.node .leaf (some (aD p.s.go)) .leaf) (some (bZ p.s.N p.s.rh p.s.m p.s.me 9 p.s.log.length p.s.ba p.s.com (p.s.sh=true) 10)) .leaf) (some (iC p.fr)) (.node (.node .leaf (some (bu p.s.log)) .leaf) (some (aD p.s.su)) .leaf)) (some (EA p.s.N p.s.mh p.s.m 3 4 p.s.sa p.s.me p.s.th p.s.met 5 p.s.su.length 6 p.s.jo.length 7 p.s.go.length (p.s.wa=true) p.s.se p.s.ro p.s.tr p.s.wh p.s.was 8 p.s.be.length p.s.wc)) (.node (.node (.node .leaf (some (hZ p.s.be)) .leaf) (some (eL p.s.prm p.s.aa p.s.avh p.s.av p.s.ath p.s.atl)) .leaf) (some (EB p.m.k p.m.N p.m.fr p.m.c p.m.b p.m.acc [] p.m.vn p.m.vh p.m.vl p.m.pn p.m.pl (p.m.has=true) p.m.mh p.m.ml p.m.h p.m.l p.m.th p.m.tl)) (.node (.node .leaf (some (.kmap true true false (Int×Int) p.s.hs aY aX)) .leaf) (some (aD p.s.jo)) .leaf))),11)) (fun _=>True) (fun p K=>aj fun r:aiW=>iP (r.z↔(p.m.k=4∨p.m.k=5∨p.m.k=9)) (K 0 (.cons 34 (.sy (.bool r.z)) (.cons 29 (.sy (.int 1 p.m.k)) (.cons 9 (.sy (.bool (p.m.N<p.s.N))) (.cons 7 (.ptr 2 0) (.cons 6 (.ptr 1 0) (.cons 1 (.sy (.int 0 p.now)) (.cons 0 (.ptr 0 0) .nil))))))) (.node (.node (.node (.node .leaf (some (aD p.s.go)) .leaf) (some (bZ p.s.N p.s.rh p.s.m p.s.me 9 p.s.log.length p.s.ba p.s.com (p.s.sh=true) 10)) .leaf) (some (iC p.fr)) (.node (.node .leaf (some (bu p.s.log)) .leaf) (some (aD p.s.su)) .leaf)) (some (EA p.s.N p.s.mh p.s.m 3 4 p.s.sa p.s.me p.s.th p.s.met 5 p.s.su.length 6 p.s.jo.length 7 p.s.go.length (p.s.wa=true) p.s.se p.s.ro p.s.tr p.s.wh p.s.was 8 p.s.be.length p.s.wc)) (.node (.node (.node .leaf (some (hZ p.s.be)) .leaf) (some (eL p.s.prm p.s.aa p.s.avh p.s.av p.s.ath p.s.atl)) .leaf) (some (EB p.m.k p.m.N p.m.fr p.m.c p.m.b p.m.acc [] p.m.vn p.m.vh p.m.vl p.m.pn p.m.pl (p.m.has=true) p.m.mh p.m.ml p.m.h p.m.l p.m.th p.m.tl)) (.node (.node .leaf (some (.kmap true true false (Int×Int) p.s.hs aY aX)) .leaf) (some (aD p.s.jo)) .leaf))) 11) true)
theorem aez:bg Tryz.prog 105 1 Bh false 1 CF:=lP (nat:=mB) cq (fun _ _ _ _=>rfl) fun p K hpre hK=>by
 dsimp only at hpre hK ⊢
 have yp {g:Prop} (h:g:=by first|(first|omega|exact⟨fun _=>by omega,fun _=>rfl⟩)|fail):g:=h
 exact wz
theorem aeB:bg Tryz.prog 105 1 Bh false 2 CG:=lP (nat:=mB) cq (fun _ _ _ _=>rfl) fun p K hpre hK=>by
 dsimp only at hpre hK ⊢
 obtain⟨g1,g2,g3,g4⟩:=hpre
 have yg {g:Prop} (h:g:=by first|(refine⟨?_,?_,?_,?_⟩<;>omega)|fail):g:=h
 have yp {g:Prop} (h:g:=by first|(first|exact KO (by assumption) (by assumption:_={aE 10 with vn:=p.s.N,vl:=p.s.m,l:=p.s.log.take p.s.ba.toNat})|exact zW (by first|assumption|exact Classical.not_not.1 (by assumption)))|fail):g:=h
 have yq {g:Prop} (h:g:=by first|(refine wX [(.mk _ (.mk ..) ..)] (by first|exact sd|exact ys) ?_;exact wz)|fail):g:=h
 exact wz
structure aax where
 s:Si
 now:Int
 fr:Int
 m:Mg
structure ZH where
 s:Si
 hh:Value
 o:List Ou
structure QU where
 s:So
 hh:Value
 o:List Ou
theorem AT:aB Tryz.prog 51 1 (aO (fun p:aax=>([.ptr 0 0,.sy (.int 0 p.now),eu p.fr,jU p.m.k p.m.N p.m.fr p.m.c p.m.b p.m.acc [] p.m.vn p.m.vh p.m.vl p.m.pn p.m.pl (p.m.has=true) p.m.mh p.m.ml p.m.h p.m.l p.m.th p.m.tl],(dm p.s p.s p.s),9)) (fun p=>bA (p.s.er none)∧qJ (p.s.er none)∧((p.s.be.length:Int)≤p.s.se∧0<p.s.N)∧0≤p.now∧p.now≤1000000000∧cE p.m.er∧p.m.vn<4294967295∧0≤p.fr∧p.fr<8∧p.s.N+1<4294967295) (fun p K=>ac (aj fun r:ZH=>iP (((r.s.er none),r.o.map Ou.er)=bm p.now (p.s.er none) p.fr p.m.er∧(r.s.be.length:Int)≤r.s.se∧0<r.s.N) (K (.sy (.imm r.hh 33 Ou r.o cB)) (dm r.s r.s r.s) 9) true) (aj fun r:QU=>iP ((r.s.er,r.o.map Ou.er)=bm p.now (p.s.er none) p.fr p.m.er∧(r.s.be.length:Int)≤r.s.se) (K (.sy (.imm r.hh 33 Ou r.o cB)) (da r.s) 5) true))):=nF (nat:=mB) DM (fun b j x h=>(cu aez (fun h=>(cu aeB (fun h=>(by cases h)) h)) h)) fun p K hpre hK=>by
 dsimp only at hpre hK ⊢
 obtain⟨hK0,hKr0⟩:=ae hK
 have hK1:=hKr0
 obtain⟨hs,hv,b1,n1,n2,hM,vn1,fr1,fr2,t3⟩:=hpre
 have hk:=uJ hM
 have mN:=hM.2.2.1
 dsimp only[Mg.er]at hk mN
 have hr_:=hs.r
 have ba0:=hs.r.ba0
 have ba1:=hs.r.ba1
 have hl_:=hs.r.len
 have mb:=hs.r.nl.2 _ hs.r.me
 have se_:=hs.se
 dsimp only[Si.er]at hr_ ba0 ba1 hl_ mb se_
 have g3:=hs.sa0
 have g4:=hs.sa1
 have hm:=ah hs.r.nl
 have g5:=hs.r.nl
 have g6:=List.ne_nil_of_mem hs.r.me
 have g7:=hs.n0
 have g8:=hs.n1
 have g9:=ah hs.su
 have g10:=ah hs.go
 have g11:=ah hs.jo
 have g12:=hs.jo.2
 have g13:=hs.tr0
 have g14:=hs.tr1
 dsimp only[Si.er]at g3 g4 hm g5 g6 g7 g8 g9 g10 g11 g12 g13 g14
 have nnx:=trivial
 have nnr:=trivial
 have nnq:=trivial
 have ys {g:Prop} (h:g:=by first|(first|(have z:=Hl hM (by assumption);have z2:=Tp hM (by assumption);omega)|(have z2:=To hM (by assumption);omega))|fail):g:=h
 have yg {g:Prop} (h:g:=by first|(first|exact mb|omega)|(exact⟨hM,fr1,fr2⟩)|(have z:=On hM (by assumption);exact⟨hs,n1,n2,z.2.1,z.2.2.1,z.1,by omega,z.2.2.2,by omega,b1⟩)|(exact⟨hr_,g7,zr hM (by assumption),fr1,fr2⟩)|(first|exact⟨g7,mb⟩|omega)|(refine⟨?_,?_,?_,?_⟩<;>omega)|(first|exact⟨hs,hv,b1,n1,n2,t3,hM,by omega,by omega⟩|(exfalso;omega)|(exfalso;have z:=ww hM (by assumption);omega))|(have z:=Hl hM (by assumption);exact⟨hr_,hs.jo,z⟩)|(exact⟨hm,g10⟩)|fail):g:=h
 have yp {g:Prop} (h:g:=by first|(first|(exfalso;first|omega|(have zz:=ww hM (by assumption);omega))|exact⟨KR (s:=p.s) (m:=p.m) (by assumption) (by assumption) (by assumption:_∧_=bV _ _ _ _ _∧_).2.1,(by assumption:_∧_=bV _ _ _ _ _∧_).2.2⟩|exact⟨KS (s:=p.s) (m:=p.m) (by assumption) (by assumption),b1⟩|exact⟨ae1 (s:=p.s) (m:=p.m) g7 (by assumption) (by assumption) (by assumption:_=eU _ _ _ _ _ _ _ _ _ _),b1⟩|exact⟨KP (s:=p.s) (m:=p.m) g7 (by assumption) (by omega) (by assumption:_=cI _ _ _),b1⟩|exact⟨Tw (s:=p.s) (m:=p.m) g7 (by assumption) (by assumption:_=dw _ _ _ _ _ _ _),b1⟩|exact⟨Tv (s:=p.s) (m:=p.m) g7 (by assumption) (ww hM (by assumption)) (by assumption:_=eM _ _ _),b1⟩|exact⟨KQ (s:=p.s) (m:=p.m) g7 (by omega) (by omega) (by assumption:_=fZ _ _ _ _∧_).1,(by assumption:_=fZ _ _ _ _∧_).2⟩|exact⟨Fb (s:=p.s) (m:=p.m) (by assumption) (by omega) g7 (by omega),b1⟩)|fail):g:=h
 have yq {g:Prop} (h:g:=by first|(refine cn (.mk _ _ _ _ _ _ _ _ _ _ _ _ _ (.mk ..) ..) (h:= ?_);exact wo)|(refine cn (.mk (.mk ..) p.now ..) (h:= ?_);exact wo)|fail):g:=h
 exact wz
noncomputable def mA:NN:=bW mB AT [(0,4),(1,20),(2,15),(3,15)]
noncomputable abbrev LQ:XC:=CF
noncomputable abbrev LR:XC:=CG
noncomputable def ft_hearq':NV (fun e0 b0 b1=>aA [e0] [] [b0,b1] 0x6ecebcb2eff6bdcf9531eabc753e030cd8c2eff9c2450228b06f408a40e6c38b7909add4f255d01e81f5b2af17696f4e9548483e1e1f0cc39d7dce7985ebe392d810e18ddaec21035f741901184926d7920eaddede43c31408a9bd850fa8a3fc6f5403369f3ac2e93bf4b723426763640af6e340cf103dec0fb9e784620f76885d62fb2d5a42ada477184df4bdd952b287c1b0cbbb899aa036e58c3adba37031668cda3f479775443123afda80486d01216793d9fdb76f736620761d5f502eb15938fd44ac50e4b6e97920f8eff7e1e970f5ee46e7892f051badf390ef8b261e67767caf42f028bb9ad91e16541d13a721f2b8):=⟨_,by conv=>rhs;reduce⟩
noncomputable abbrev PG:XF:=ft_hearq'.1 (eB 118 33 cB) LQ LR
theorem DK:aK Tryz.prog 51 PG=true:=by kernel_rfl
structure ajl where
 s:Si
 v:Qi
 now:Int
 fr:Int
structure aiX where
 o:List Ou
structure ajj where
 s:Si
 v:Qi
 now:Int
 fr:Int
 m:Mg
structure aiV where
 z:Prop
noncomputable def Bg:bM:=ce (ce bQ 2 (fun p:ajl=>((.cons 6 (.ptr 1 0) (.cons 0 (.ptr 0 0) .nil)),(.node (.node (.node (.node .leaf (some (aD p.s.go)) .leaf) (some (eL p.s.prm p.s.aa p.s.avh p.s.av p.s.ath p.s.atl)) (.node .leaf (some (.kmap true true false Int p.v.gt am cC)) .leaf)) (some (iC p.fr)) (.node (.node .leaf (some (bu p.s.log)) .leaf) (some (aD p.s.su)) .leaf)) (some (pM p.s.N p.s.mh p.s.m 2 3 4 p.s.sa p.s.me p.s.th p.s.met 5 p.s.su.length 6 p.s.jo.length 7 p.s.go.length (p.s.wa=true) p.s.se p.s.ro p.s.tr p.s.wh p.s.was 8 p.s.be.length p.s.wc)) (.node (.node (.node .leaf (some (hZ p.s.be)) .leaf) (some (.blk false 161 11 [[.int 1 (.ofNat 0),.sy (.int 3 p.s.N),.sy (.imm p.v.qh 2 Int p.s.m am),.sy (.int 4 p.v.b),.sy (.int 0 p.v.ph),.map 11,.sy (.int 4 p.v.best),.sy (.vl p.v.hh true Vl p.v.held cK),.sy (.imm p.v.qth 18 Ke p.v.qt aF),.sy (.imm p.v.cmh 2 Int p.v.cm am),.sy (.imm p.v.cth 18 Ke p.v.ct aF)]])) .leaf) (some (bZ p.s.N p.s.rh p.s.m p.s.me 9 p.s.log.length p.s.ba p.s.com (p.s.sh=true) 10)) (.node (.node .leaf (some (.kmap true true false (Int×Int) p.s.hs aY aX)) .leaf) (some (aD p.s.jo)) .leaf))),12)) (fun p=>p.s.log.length≤400∧0≤p.s.ba∧p.s.ba≤(p.s.log.length:Int)∧p.s.m.length≤8) (fun p K=>aj fun r:aiX=>iP (r.o.map Ou.er=cI p.s.me {aE 10 with vn:=p.s.N,vl:=p.s.m,l:=p.s.log.take p.s.ba.toNat} [p.fr]) (K 0 (.cons 8 (.sy (.prow 1 r.o.length)) .nil) (gG p.s p.s p.s p.s p.v r.o) 12) true)) 1 (fun p:ajj=>((.cons 29 (.sy (.int 1 p.m.k)) (.cons 9 (.sy (.bool (p.m.N<p.s.N))) (.cons 7 (.ptr 2 0) (.cons 6 (.ptr 1 0) (.cons 1 (.sy (.int 0 p.now)) (.cons 0 (.ptr 0 0) .nil)))))),(.node (.node (.node (.node .leaf (some (aD p.s.jo)) .leaf) (some (bZ p.s.N p.s.rh p.s.m p.s.me 10 p.s.log.length p.s.ba p.s.com (p.s.sh=true) 11)) (.node .leaf (some (.kmap true true false (Int×Int) p.s.hs aY aX)) .leaf)) (some (iC p.fr)) (.node (.node .leaf (some (hZ p.s.be)) .leaf) (some (.blk false 161 11 [[.int 1 (.ofNat 0),.sy (.int 3 p.s.N),.sy (.imm p.v.qh 2 Int p.s.m am),.sy (.int 4 p.v.b),.sy (.int 0 p.v.ph),.map 12,.sy (.int 4 p.v.best),.sy (.vl p.v.hh true Vl p.v.held cK),.sy (.imm p.v.qth 18 Ke p.v.qt aF),.sy (.imm p.v.cmh 2 Int p.v.cm am),.sy (.imm p.v.cth 18 Ke p.v.ct aF)]])) .leaf)) (some (pM p.s.N p.s.mh p.s.m 3 4 5 p.s.sa p.s.me p.s.th p.s.met 6 p.s.su.length 7 p.s.jo.length 8 p.s.go.length (p.s.wa=true) p.s.se p.s.ro p.s.tr p.s.wh p.s.was 9 p.s.be.length p.s.wc)) (.node (.node (.node .leaf (some (aD p.s.go)) .leaf) (some (eL p.s.prm p.s.aa p.s.avh p.s.av p.s.ath p.s.atl)) (.node .leaf (some (.kmap true true false Int p.v.gt am cC)) .leaf)) (some (EB p.m.k p.m.N p.m.fr p.m.c p.m.b p.m.acc [] p.m.vn p.m.vh p.m.vl p.m.pn p.m.pl (p.m.has=true) p.m.mh p.m.ml p.m.h p.m.l p.m.th p.m.tl)) (.node (.node .leaf (some (bu p.s.log)) .leaf) (some (aD p.s.su)) .leaf))),13)) (fun _=>True) (fun p K=>aj fun r:aiV=>iP (r.z↔(p.m.k=4∨p.m.k=5∨p.m.k=9)) (K 0 (.cons 34 (.sy (.bool r.z)) (.cons 29 (.sy (.int 1 p.m.k)) (.cons 9 (.sy (.bool (p.m.N<p.s.N))) (.cons 7 (.ptr 2 0) (.cons 6 (.ptr 1 0) (.cons 1 (.sy (.int 0 p.now)) (.cons 0 (.ptr 0 0) .nil))))))) (.node (.node (.node (.node .leaf (some (aD p.s.jo)) .leaf) (some (bZ p.s.N p.s.rh p.s.m p.s.me 10 p.s.log.length p.s.ba p.s.com (p.s.sh=true) 11)) (.node .leaf (some (.kmap true true false (Int×Int) p.s.hs aY aX)) .leaf)) (some (iC p.fr)) (.node (.node .leaf (some (hZ p.s.be)) .leaf) (some (.blk false 161 11 [[.int 1 (.ofNat 0),.sy (.int 3 p.s.N),.sy (.imm p.v.qh 2 Int p.s.m am),.sy (.int 4 p.v.b),.sy (.int 0 p.v.ph),.map 12,.sy (.int 4 p.v.best),.sy (.vl p.v.hh true Vl p.v.held cK),.sy (.imm p.v.qth 18 Ke p.v.qt aF),.sy (.imm p.v.cmh 2 Int p.v.cm am),.sy (.imm p.v.cth 18 Ke p.v.ct aF)]])) .leaf)) (some (pM p.s.N p.s.mh p.s.m 3 4 5 p.s.sa p.s.me p.s.th p.s.met 6 p.s.su.length 7 p.s.jo.length 8 p.s.go.length (p.s.wa=true) p.s.se p.s.ro p.s.tr p.s.wh p.s.was 9 p.s.be.length p.s.wc)) (.node (.node (.node .leaf (some (aD p.s.go)) .leaf) (some (eL p.s.prm p.s.aa p.s.avh p.s.av p.s.ath p.s.atl)) (.node .leaf (some (.kmap true true false Int p.v.gt am cC)) .leaf)) (some (EB p.m.k p.m.N p.m.fr p.m.c p.m.b p.m.acc [] p.m.vn p.m.vh p.m.vl p.m.pn p.m.pl (p.m.has=true) p.m.mh p.m.ml p.m.h p.m.l p.m.th p.m.tl)) (.node (.node .leaf (some (bu p.s.log)) .leaf) (some (aD p.s.su)) .leaf))) 13) true)
theorem aey:bg Tryz.prog 105 1 Bg false 1 LQ:=lP (nat:=mA) cq (fun _ _ _ _=>rfl) fun p K hpre hK=>by
 dsimp only at hpre hK ⊢
 have yp {g:Prop} (h:g:=by first|(first|omega|exact⟨fun _=>by omega,fun _=>rfl⟩)|fail):g:=h
 exact wz
theorem aeA:bg Tryz.prog 105 1 Bg false 2 LR:=lP (nat:=mA) cq (fun _ _ _ _=>rfl) fun p K hpre hK=>by
 dsimp only at hpre hK ⊢
 obtain⟨g1,g2,g3,g4⟩:=hpre
 have yg {g:Prop} (h:g:=by first|(refine⟨?_,?_,?_,?_⟩<;>omega)|fail):g:=h
 have yp {g:Prop} (h:g:=by first|(first|exact KO (by assumption) (by assumption:_={aE 10 with vn:=p.s.N,vl:=p.s.m,l:=p.s.log.take p.s.ba.toNat})|exact zW (by first|assumption|exact Classical.not_not.1 (by assumption)))|fail):g:=h
 have yq {g:Prop} (h:g:=by first|(refine wX [(.mk _ (.mk ..) ..)] (by first|exact sd|exact ys) ?_;exact wz)|fail):g:=h
 exact wz
structure aav where
 s:Si
 v:Qi
 now:Int
 fr:Int
 m:Mg
structure ZF where
 s:Si
 v:Qi
 hh:Value
 o:List Ou
structure QS where
 s:Si
 hh:Value
 o:List Ou
structure QR where
 s:So
 hh:Value
 o:List Ou
theorem AR:aB Tryz.prog 51 1 (aO (fun p:aav=>([.ptr 0 0,.sy (.int 0 p.now),eu p.fr,jU p.m.k p.m.N p.m.fr p.m.c p.m.b p.m.acc [] p.m.vn p.m.vh p.m.vl p.m.pn p.m.pl (p.m.has=true) p.m.mh p.m.ml p.m.h p.m.l p.m.th p.m.tl],(dl p.s p.s p.s p.s p.v),11)) (fun p=>bA (p.s.er none)∧PQOk (p.s.er none) p.v.er∧((p.s.be.length:Int)≤p.s.se∧0<p.s.N)∧0≤p.now∧p.now≤1000000000∧cE p.m.er∧p.m.vn<4294967295∧0≤p.fr∧p.fr<8∧p.s.N+1<4294967295) (fun p K=>ac (aj fun r:ZF=>iP (((r.s.er (some r.v.er)),r.o.map Ou.er)=bm p.now (p.s.er (some p.v.er)) p.fr p.m.er∧(r.s.be.length:Int)≤r.s.se∧0<r.s.N) (K (.sy (.imm r.hh 33 Ou r.o cB)) (dl r.s r.s r.s r.s r.v) 11) true) (ac (aj fun r:QS=>iP (((r.s.er none),r.o.map Ou.er)=bm p.now (p.s.er (some p.v.er)) p.fr p.m.er∧(r.s.be.length:Int)≤r.s.se∧0<r.s.N) (K (.sy (.imm r.hh 33 Ou r.o cB)) (dm r.s r.s r.s) 9) true) (aj fun r:QR=>iP ((r.s.er,r.o.map Ou.er)=bm p.now (p.s.er (some p.v.er)) p.fr p.m.er∧(r.s.be.length:Int)≤r.s.se) (K (.sy (.imm r.hh 33 Ou r.o cB)) (da r.s) 5) true)))):=nF (nat:=mA) DK (fun b j x h=>(cu aey (fun h=>(cu aeA (fun h=>(by cases h)) h)) h)) fun p K hpre hK=>by
 dsimp only at hpre hK ⊢
 obtain⟨hK0,hKr0⟩:=ae hK
 obtain⟨hK1,hKr1⟩:=ae hKr0
 have hK2:=hKr1
 obtain⟨hs,hv,b1,n1,n2,hM,vn1,fr1,fr2,t3⟩:=hpre
 have hk:=uJ hM
 have mN:=hM.2.2.1
 dsimp only[Mg.er]at hk mN
 have hr_:=hs.r
 have ba0:=hs.r.ba0
 have ba1:=hs.r.ba1
 have hl_:=hs.r.len
 have mb:=hs.r.nl.2 _ hs.r.me
 have se_:=hs.se
 dsimp only[Si.er]at hr_ ba0 ba1 hl_ mb se_
 have g3:=hs.sa0
 have g4:=hs.sa1
 have hm:=ah hs.r.nl
 have g5:=hs.r.nl
 have g6:=List.ne_nil_of_mem hs.r.me
 have g7:=hs.n0
 have g8:=hs.n1
 have g9:=ah hs.su
 have g10:=ah hs.go
 have g11:=ah hs.jo
 have g12:=hs.jo.2
 have g13:=hs.tr0
 have g14:=hs.tr1
 dsimp only[Si.er]at g3 g4 hm g5 g6 g7 g8 g9 g10 g11 g12 g13 g14
 have nnx:=trivial
 have nnr:=trivial
 have nnq:=trivial
 have ys {g:Prop} (h:g:=by first|(first|(have z:=Hl hM (by assumption);have z2:=Tp hM (by assumption);omega)|(have z2:=To hM (by assumption);omega))|fail):g:=h
 have yg {g:Prop} (h:g:=by first|(first|exact mb|omega)|(exact⟨hM,fr1,fr2⟩)|(have z:=On hM (by assumption);exact⟨hs,n1,n2,z.2.1,z.2.2.1,z.1,by omega,z.2.2.2,by omega,b1⟩)|(exact⟨hr_,g7,zr hM (by assumption),fr1,fr2⟩)|(first|exact⟨g7,mb⟩|omega)|(refine⟨?_,?_,?_,?_⟩<;>omega)|(first|exact⟨hs,hv,b1,n1,n2,t3,hM,by omega,by omega⟩|(exfalso;omega)|(exfalso;have z:=ww hM (by assumption);omega))|(have z:=Hl hM (by assumption);exact⟨hr_,hs.jo,z⟩)|(exact⟨hm,g10⟩)|fail):g:=h
 have yp {g:Prop} (h:g:=by first|(first|(exfalso;first|omega|(have zz:=ww hM (by assumption);omega))|exact⟨KR (s:=p.s) (m:=p.m) (by assumption) (by assumption) (by assumption:_∧_=bV _ _ _ _ _∧_).2.1,(by assumption:_∧_=bV _ _ _ _ _∧_).2.2⟩|exact⟨KS (s:=p.s) (m:=p.m) (by assumption) (by assumption),b1⟩|exact⟨ae1 (s:=p.s) (m:=p.m) g7 (by assumption) (by assumption) (by assumption:_=eU _ _ _ _ _ _ _ _ _ _),b1⟩|exact⟨KP (s:=p.s) (m:=p.m) g7 (by assumption) (by omega) (by assumption:_=cI _ _ _),b1⟩|exact⟨Tw (s:=p.s) (m:=p.m) g7 (by assumption) (by assumption:_=dw _ _ _ _ _ _ _),b1⟩|exact⟨Tv (s:=p.s) (m:=p.m) g7 (by assumption) (ww hM (by assumption)) (by assumption:_=eM _ _ _),b1⟩|exact⟨KQ (s:=p.s) (m:=p.m) g7 (by omega) (by omega) (by assumption:_=fZ _ _ _ _∧_).1,(by assumption:_=fZ _ _ _ _∧_).2⟩|exact⟨Fb (s:=p.s) (m:=p.m) (by assumption) (by omega) g7 (by omega),b1⟩)|fail):g:=h
 have ye {g:Prop} (h:g:=by first|(exact cQ hK0 (.mk (.mk ..) (.mk ..) _ [] ..))|fail):g:=h
 have yq {g:Prop} (h:g:=by first|(refine cn (.mk _ _ _ _ _ _ _ _ _ _ _ _ _ (.mk ..) ..) (h:= ?_);exact wo)|(refine cn (.mk (.mk ..) (.mk ..) p.now ..) (h:= ?_);exact wo)|fail):g:=h
 exact wz
noncomputable def xV:NN:=bW mA AR [(0,4),(1,20),(2,15),(3,15)]
noncomputable def ft_hearo':NV (fun e0=>aA [e0] [] [] 0x167bfc4c78aa7addd0d4eeac94df9da43d067eaf337905659099edfd92e6ab4f7dcdcfe39fae2582f9746179ad426f0d22b545e4fd99afdf318f5e674af35253cc976882738a774861bc24a2d1aaa1689258b3f28bc92de3156faa1e4019330f6d86a67faf08d0c0085fe87c0d138e249a7812639c01d9b93427b3383143efb74aa48df8a87a28b3af41ac8b61e0e769e777e6a2dcd527488259617ca1d1d7ce26392472edd762354324799e683ec450b937c6eae9e334e67a96388f0b7867cad6df5c0774c2f893d11a7d161329b7ac0318d055d3207fea3528f9208a8bfcaa1e4d32c2620c525b21120345be128d85a59430bb04d821c774197de69a858a6ee095fbe3bd1e717bc3c7fa2535c16e2c14cceda95216f7152bfc3f4730b51a203a0f07d95371eec89e):=⟨_,by conv=>rhs;reduce⟩
noncomputable abbrev PH:XF:=ft_hearo'.1 (eB 118 33 cB)
theorem DL:aK Tryz.prog 51 PH=true:=by kernel_rfl
structure aaw where
 s:So
 now:Int
 fr:Int
 m:Mg
structure ZG where
 s:Si
 hh:Value
 o:List Ou
structure QT where
 s:So
 hh:Value
 o:List Ou
theorem AS:aB Tryz.prog 51 1 (aO (fun p:aaw=>([.ptr 0 0,.sy (.int 0 p.now),eu p.fr,jU p.m.k p.m.N p.m.fr p.m.c p.m.b p.m.acc [] p.m.vn p.m.vh p.m.vl p.m.pn p.m.pl (p.m.has=true) p.m.mh p.m.ml p.m.h p.m.l p.m.th p.m.tl],(da p.s),5)) (fun p=>jY p.s.er∧(p.s.be.length:Int)≤p.s.se∧0≤p.now∧p.now≤1000000000∧cE p.m.er∧p.m.vn<4294967295∧0≤p.fr∧p.fr<8) (fun p K=>ac (aj fun r:ZG=>iP (((r.s.er none),r.o.map Ou.er)=bm p.now p.s.er p.fr p.m.er∧(r.s.be.length:Int)≤r.s.se∧0<r.s.N) (K (.sy (.imm r.hh 33 Ou r.o cB)) (dm r.s r.s r.s) 9) true) (aj fun r:QT=>iP ((r.s.er,r.o.map Ou.er)=bm p.now p.s.er p.fr p.m.er∧(r.s.be.length:Int)≤r.s.se) (K (.sy (.imm r.hh 33 Ou r.o cB)) (da r.s) 5) true))):=nE (nat:=xV) DL fun p K hpre hK=>by
 dsimp only at hpre hK ⊢
 obtain⟨hK0,hKr0⟩:=ae hK
 have hK1:=hKr0
 obtain⟨hs,b1,n1,n2,hM,vn1,fr1,fr2⟩:=hpre
 have hk:=uJ hM
 have mN:=hM.2.2.1
 dsimp only[Mg.er]at hk mN
 have mb:=hs.me
 dsimp only[So.er]at mb
 have nnx:=trivial
 have nnr:=trivial
 have yg {g:Prop} (h:g:=by first|(first|exact mb|omega)|(exact⟨hM,fr1,fr2⟩)|(have z:=On hM (by assumption);exact⟨hs,n1,n2,z.2.1,z.2.2.1,z.1,by omega,z.2.2.2,by omega,b1⟩)|(exact mb)|fail):g:=h
 have yp {g:Prop} (h:g:=by first|(first|(exfalso;omega)|exact⟨ae5 (u:=p.s) (m:=p.m) (by assumption) (by assumption) (by assumption:_∧_=bV _ _ _ _ _∧_).2.1,(by assumption:_∧_=bV _ _ _ _ _∧_).2.2⟩|exact⟨ae6 (u:=p.s) (m:=p.m) (by assumption) (by assumption),b1⟩|exact⟨ajU (u:=p.s) (m:=p.m) (by assumption) (by assumption) (by assumption:_=oZ _ _ _ _),b1⟩|exact⟨aiz (u:=p.s) (m:=p.m) (by assumption) (by omega),b1⟩)|fail):g:=h
 have yq {g:Prop} (h:g:=by first|(refine cn (.mk (.mk ..) _ (.mk ..) ..) (h:= ?_);exact wo)|fail):g:=h
 exact wz
noncomputable def mz:NN:=bW xV AS [(0,4),(1,20),(2,15),(3,15)]
def lW (me:Int) (m go:List Int):List (Int×Mx):=if me∈go then cI me {aE 12 with pn:=me,pl:=1} m else []
def rK (N:Int) (m:List Int) (me:Int) (log:List Ke) (com:Int) (hs:List (Int×Int)):List (Int×Mx):=if m.head?=some me then (m.drop 1).map (iT N m me log com hs) else []
def rJ (s:St):List (Int×Mx):=lW s.me s.m s.go++rK s.N s.m s.me s.log s.com s.hs
instance aj0 (now:Int) (s:St):Decidable (fL now s):=inferInstanceAs (Decidable (s.sh=true∧s.sa≤now∧12+6*(s.m.idxOf s.me:Int)≤now - s.sa))
instance aj1 (s:St):Decidable (uX s):=inferInstanceAs (Decidable ((s.m.find? fun p=>decide (¬(p∈s.su∨p∈s.go)))=some s.me))
instance ajv (now:Int) (s:St):Decidable (eY now s):=inferInstanceAs (Decidable (s.tr≤now∧(fL now s∨(¬cN s.m s.su s.jo s.go=s.m∧uX s))))
def cg (now:Int) (s:St):St×List (Int×Mx):=
 if ¬0<s.N then (s,if s.wa=true then cI s.me {aE 11 with pn:=s.me,pl:=1} s.met else []) else
 match s.q with
 |some v=>(s,rJ s++eO s.N s.me s.m v)
 |none=>if eY now s then ((ey now s).1,rJ s++(ey now s).2) else (s,rJ s)
section
variable {now:Int} {s:Si} {u:So} {o o1 o2:List Ou}
theorem ahX (hN:0<s.N) (ho:o.map Ou.er=rJ (s.er none)) (h:¬eY now (s.er none)):(s.er none,o.map Ou.er)=cg now (s.er none):=by
 unfold cg
 rw[if_neg (show¬¬0<(s.er none).N from fun g=>g hN)]
 show _=if eY now (s.er none) then _ else _
 rw[if_neg h,ho]
theorem acO (hN:0<s.N) (ho:o1.map Ou.er=rJ (s.er none)) (h:eY now (s.er none)) {x:St} (hb:(x,o2.map Ou.er)=ey now (s.er none)) (e:o=o1++o2):(x,o.map Ou.er)=cg now (s.er none):=by
 unfold cg
 rw[if_neg (show¬¬0<(s.er none).N from fun g=>g hN)]
 show _=if eY now (s.er none) then _ else _
 rw[if_pos h,←hb,e,aky,ho]
theorem ajx (hN:0<s.N) {v:Pq} (ho:o1.map Ou.er=rJ (s.er none)) (ha:o2.map Ou.er=eO s.N s.me s.m v) (e:o=o1++o2):(s.er (some v),o.map Ou.er)=cg now (s.er (some v)):=by
 unfold cg
 rw[if_neg (show¬¬0<(s.er (some v)).N from fun g=>g hN)]
 show _=(_,rJ (s.er none)++eO s.N s.me s.m v)
 rw[e,aky,ho,ha]
theorem acN (h:¬u.wa=true):(u.er,([]:List Ou).map Ou.er)=cg now u.er:=by
 unfold cg
 rw[if_pos (show¬0<u.er.N from by show¬(0:Int)<0;decide),if_neg (show¬u.er.wa=true from h)];rfl
theorem UK (h:u.wa=true) {z:Mg} (hz:z.er={aE 11 with pn:=u.me,pl:=1}) (ho:o.map Ou.er=cI u.me z.er u.met):(u.er,o.map Ou.er)=cg now u.er:=by
 unfold cg
 rw[if_pos (show¬0<u.er.N from by show¬(0:Int)<0;decide),if_pos (show u.er.wa=true from h),ho,hz];rfl
theorem Jc {me:Int} {m go:List Int} {z:Mg} (h:me∈go) (hz:z.er={aE 12 with pn:=me,pl:=1}) (ho:o.map Ou.er=cI me z.er m):o.map Ou.er=lW me m go∧o.length≤m.length:=by
 have hl:=pw ho
 unfold lW
 rw[if_pos h,ho,hz]
 exact⟨rfl,hl⟩
theorem SJ {me:Int} {m go:List Int} (h:¬me∈go):([]:List Ou).map Ou.er=lW me m go∧([]:List Ou).length≤m.length:=by
 unfold lW
 rw[if_neg h]
 exact⟨rfl,Nat.zero_le _⟩
theorem Jb {N me com:Int} {m:List Int} {log:List Ke} {hs:List (Int×Int)} (h:m.head?=some me) (h2:o2.map Ou.er=(m.drop 1).map (iT N m me log com hs)) (e:o=o1++o2):o.map Ou.er=o1.map Ou.er++rK N m me log com hs∧o.length≤o1.length+m.length:=by
 have hl:=nK h2
 rw[akJ]at hl
 unfold rK
 rw[if_pos h,e,aky,h2,akk]
 exact⟨rfl,by omega⟩
theorem SG {N me com:Int} {m:List Int} {log:List Ke} {hs:List (Int×Int)} (h:¬m.head?=some me):o1.map Ou.er=o1.map Ou.er++rK N m me log com hs∧o1.length≤o1.length+m.length:=by
 unfold rK
 rw[if_neg h,List.append_nil]
 exact⟨rfl,by omega⟩
theorem YP (hs:bA (s.er none)) (ha:qJ (s.er none)) (hn:0≤now∧now≤1000000000):(ey now (s.er none)).2.length≤24:=by
 have r0:=hs.ro0
 have r1:=hs.ro1
 have mb:=hs.r.nl.2 _ hs.r.me
 unfold ey
 split
 ·exact Nat.zero_le _
 ·rename_i hr
  have h1:bA (({s with ro:=s.ro+1,tr:=now+10}:Si).er none):=Jg hs (by dsimp only[Si.er]at r0 r1 hr;omega)
  have hv:PQOk (({s with ro:=s.ro+1,tr:=now+10}:Si).er none) ⟨(s.ro+1)*256+s.me,0,[],0,none,[],([],[])⟩:=sL (s:=({s with ro:=s.ro+1,tr:=now+10}:Si).er none) hs.r ha (by dsimp only[Si.er]at r0 r1 hr mb;omega)
  have hb:=Iy h1 hv hn
  have l1:=ul (now:=now) hb.1 hb.2
  have l2:=ah hb.1.r.nl
  dsimp only
  rw[akk]
  exact Nat.le_trans (Nat.add_le_add (lO) l1) (by dsimp only[Si.er]at l2 ⊢;omega)
theorem oW {x:St} (hs:bA (s.er none)) (ha:qJ (s.er none)) (n1:0≤now) (n2:now≤1000000000) (h:(x,o.map Ou.er)=ey now (s.er none)):o.length≤24:=by
 have e:=congrArg (fun z=>z.2.length) h
 dsimp only at e
 rw[akm]at e
 rw[e];exact YP hs ha ⟨n1,n2⟩
end
noncomputable def bd_tan':NV (fun e0 e1 e2=>cS [e0,e1,e2] [] [] 0x2ccb56da62dd33055828df777341df67ccb1781df63908439a45e2e92ec33e41dd9bff10aab1dfee6d4a913779999078ee71d0896f788dff58b513e0e112016):=⟨_,by conv=>rhs;reduce⟩
noncomputable abbrev Cs:XC:=bd_tan'.1 (eC 52 2 am) (eC 68 18 aF) (eB 118 33 cB)
noncomputable def bd_tbn':NV (cS [] [] [] 0x40158089da153eb7666d3f4a30eeac3c2ed43c3fcd194a0a25d6d502cb85a6564764c5be09728b):=⟨_,by conv=>rhs;reduce⟩
noncomputable abbrev Cr:XC:=bd_tbn'.1
noncomputable def ft_tickn':NV (fun e0 e1 e2 b0 b1=>aA [e0,e1,e2] [] [b0,b1] 0x18b442e824405d332a286bc61509b190c402678bb5f319d49f52c353f681c914650bf0c4cbb127a7110faae3709718ccd0cb99a55540ab5dc2a7d3d3f9cd463ea36a2dc7731689b3f4510a049903b3319b6015105e6414cc141af5f51ae1da5b4b524ae9ec1bea4a60339f04483acc3b2bb116bf470c823328cb2f11e9bcb21563292b73be1bbf48b7dab439cf2e4867f587ee50a8047817bca889a2776ef96e4d809d83db94):=⟨_,by conv=>rhs;reduce⟩
noncomputable abbrev Pm:XF:=ft_tickn'.1 (eC 52 2 am) (eC 68 18 aF) (eB 118 33 cB) Cs Cr
theorem Dr:aK Tryz.prog 50 Pm=true:=by kernel_rfl
structure ai9 where
 s:Si
 now:Int
 o:List Ou
structure aiN where
 o:List Ou
structure ajb where
 s:Si
 now:Int
structure aiP where
 o:List Ou
noncomputable def Be:bM:=ce (ce bQ 2 (fun p:ai9=>((.cons 6 (.sy (.prow 1 p.o.length)) (.cons 1 (.sy (.int 0 p.now)) (.cons 0 (.ptr 0 0) .nil))),(fA p.s p.s p.s p.o),10)) (fun p=>ROk p.s.m p.s.me p.s.log p.s.ba p.s.com p.s.hs∧0<p.s.N∧p.s.N<4294967296∧p.o.length≤8) (fun p K=>aj fun r:aiN=>iP (r.o.map Ou.er=p.o.map Ou.er++rK p.s.N p.s.m p.s.me p.s.log p.s.com p.s.hs∧r.o.length≤p.o.length+p.s.m.length) (K 0 (.cons 6 (.sy (.prow 1 r.o.length)) (.cons 1 (.sy (.int 0 p.now)) (.cons 0 (.ptr 0 0) .nil))) (fA p.s p.s p.s r.o) 10) true)) 1 (fun p:ajb=>((.cons 6 .nilS (.cons 5 (.ptr 1 0) (.cons 1 (.sy (.int 0 p.now)) (.cons 0 (.ptr 0 0) .nil)))),(.node (.node (.node (.node .leaf (some (hZ p.s.be)) .leaf) (some (eL p.s.prm p.s.aa p.s.avh p.s.av p.s.ath p.s.atl)) .leaf) (some (o_r [] p.s.me)) (.node (.node .leaf (some (.kmap true true false (Int×Int) p.s.hs aY aX)) .leaf) (some (aD p.s.jo)) .leaf)) (some (EA p.s.N p.s.mh p.s.m 2 3 p.s.sa p.s.me p.s.th p.s.met 4 p.s.su.length 5 p.s.jo.length 6 p.s.go.length (p.s.wa=true) p.s.se p.s.ro p.s.tr p.s.wh p.s.was 7 p.s.be.length p.s.wc)) (.node (.node (.node .leaf (some (bu p.s.log)) .leaf) (some (aD p.s.su)) .leaf) (some (bZ p.s.N p.s.rh p.s.m p.s.me 8 p.s.log.length p.s.ba p.s.com (p.s.sh=true) 9)) (.node .leaf (some (aD p.s.go)) .leaf))),10)) (fun p=>p.s.m.length≤8∧p.s.go.length≤8) (fun p K=>aj fun r:aiP=>iP (r.o.map Ou.er=lW p.s.me p.s.m p.s.go∧r.o.length≤p.s.m.length) (K 0 (.cons 6 (.sy (.prow 1 r.o.length)) (.cons 1 (.sy (.int 0 p.now)) (.cons 0 (.ptr 0 0) .nil))) (fA p.s p.s p.s r.o) 10) true)
theorem aeu:bg Tryz.prog 95 1 Be false 1 Cs:=lP (nat:=mz) cq (fun _ _ _ _=>rfl) fun p K hpre hK=>by
 dsimp only at hpre hK ⊢
 obtain⟨G1,G2⟩:=hpre
 have nnr:=trivial
 have nnq:=trivial
 have yp {g:Prop} (h:g:=by first|(first|exact Jc (by assumption) rfl (by assumption:_=cI _ _ _∧_).1|exact SJ (by assumption))|fail):g:=h
 have yq {g:Prop} (h:g:=by first|(refine cn (.mk _ _ (.mk _ _ _ _ _ _ _ _ [] _ _ _ _ [] _ [] _ [] ..) ..) (h:= ?_);exact wo)|fail):g:=h
 exact wz
theorem aes:bg Tryz.prog 95 1 Be false 2 Cr:=lP (nat:=mz) cq (fun _ _ _ _=>rfl) fun p K hpre hK=>by
 dsimp only at hpre hK ⊢
 obtain⟨hr_,g7,g8,G1⟩:=hpre
 have hm:=ah hr_.nl
 have hne:=List.length_pos_iff.2 (List.ne_nil_of_mem hr_.me)
 have nnl:=trivial
 have ys {g:Prop} (h:g:=by first|(have l4_:=nK (by assumption:_=List.map (iT _ _ _ _ _ _) _);rw[akJ]at l4_;simp[bU];omega;done)|fail):g:=h
 have yg {g:Prop} (h:g:=by first|(exact⟨hr_,by omega,by omega⟩)|fail):g:=h
 have yp {g:Prop} (h:g:=by first|(first|(exfalso;omega)|exact Jb ((fF (by assumption)).1 (by first|assumption|exact(by assumption:_=_).symm)) (by assumption:_=List.map (iT _ _ _ _ _ _) _) (by first|rfl|exact jb (by assumption))|exact SG (fun g=>absurd ((fF (by assumption)).2 g) (by first|assumption|exact fun e=>absurd e.symm (by assumption))))|fail):g:=h
 have yz {g:Prop} (h:g:=by first|(have l4_:=nK (by assumption:_=List.map (iT _ _ _ _ _ _) _);rw[akJ]at l4_;simp[bU];omega;done)|fail):g:=h
 have yq {g:Prop} (h:g:=by first|(refine wX _ (by first|exact sd|exact ys) ?_;exact wz)|fail):g:=h
 exact wz
structure aae where
 s:Si
 now:Int
structure Zh where
 s:Si
 v:Qi
 hh:Value
 o:List Ou
structure QD where
 s:Si
 hh:Value
 o:List Ou
structure QC where
 s:So
 hh:Value
 o:List Ou
theorem AO:aB Tryz.prog 50 1 (aO (fun p:aae=>([.ptr 0 0,.sy (.int 0 p.now)],(dm p.s p.s p.s),9)) (fun p=>bA (p.s.er none)∧qJ (p.s.er none)∧((p.s.be.length:Int)≤p.s.se∧0<p.s.N)∧0≤p.now∧p.now≤1000000000∧p.s.N+1<4294967295) (fun p K=>ac (aj fun r:Zh=>iP (((r.s.er (some r.v.er)),r.o.map Ou.er)=cg p.now (p.s.er none)∧(r.s.be.length:Int)≤r.s.se∧0<r.s.N) (K (.sy (.imm r.hh 33 Ou r.o cB)) (dl r.s r.s r.s r.s r.v) 11) true) (ac (aj fun r:QD=>iP (((r.s.er none),r.o.map Ou.er)=cg p.now (p.s.er none)∧(r.s.be.length:Int)≤r.s.se∧0<r.s.N) (K (.sy (.imm r.hh 33 Ou r.o cB)) (dm r.s r.s r.s) 9) true) (aj fun r:QC=>iP ((r.s.er,r.o.map Ou.er)=cg p.now (p.s.er none)∧(r.s.be.length:Int)≤r.s.se) (K (.sy (.imm r.hh 33 Ou r.o cB)) (da r.s) 5) true)))):=nF (nat:=mz) Dr (fun b j x h=>(cu aeu (fun h=>(cu aes (fun h=>(by cases h)) h)) h)) fun p K hpre hK=>by
 dsimp only at hpre hK ⊢
 obtain⟨hK0,hKr0⟩:=ae hK
 obtain⟨hK1,hKr1⟩:=ae hKr0
 have hK2:=hKr1
 obtain⟨hs,hv,b1,n1,n2,t3⟩:=hpre
 have hr_:=hs.r
 have mb:=hs.r.nl.2 _ hs.r.me
 dsimp only[Si.er]at hr_ mb
 have g3:=hs.sa0
 have g4:=hs.sa1
 have hm:=ah hs.r.nl
 have g5:=hs.r.nl
 have g6:=List.ne_nil_of_mem hs.r.me
 have g7:=hs.n0
 have g8:=hs.n1
 have g9:=ah hs.su
 have g10:=ah hs.go
 have g11:=ah hs.jo
 have g12:=hs.jo.2
 have g13:=hs.tr0
 have g14:=hs.tr1
 dsimp only[Si.er]at g3 g4 hm g5 g6 g7 g8 g9 g10 g11 g12 g13 g14
 have nnx:=trivial
 have nnr:=trivial
 have nnq:=trivial
 have nnl:=trivial
 have ys {g:Prop} (h:g:=by first|(have l2_:=ah g5;(try have l1_:=kK (by assumption:_=eO _ _ _ _));(try have l3_:=oW hs hv n1 n2 (by assumption:_=ey _ _∧_).1);simp[bU];omega;done)|fail):g:=h
 have yg {g:Prop} (h:g:=by first|(first|exact mb|omega)|(first|exact⟨g7,mb⟩|omega)|(exact⟨hm,g10⟩)|(exact⟨hr_,g7,by omega,by(have e:=(by assumption:_=lW _ _ _∧_).2;omega)⟩)|(exact⟨hs,n1,n2⟩)|(exact⟨hs,hv,b1,n1,n2,t3⟩)|fail):g:=h
 have yp {g:Prop} (h:g:=by first|(first|exact⟨ahX (s:=p.s) g7 hb1 (by assumption),b1⟩|exact⟨acO (s:=p.s) g7 hb1 (by assumption) (by assumption:_=ey _ _∧_).1 (by first|rfl|exact jb (by assumption)),(by assumption:_=ey _ _∧_).2⟩)|fail):g:=h
 have yz {g:Prop} (h:g:=by first|(have l2_:=ah g5;(try have l1_:=kK (by assumption:_=eO _ _ _ _));(try have l3_:=oW hs hv n1 n2 (by assumption:_=ey _ _∧_).1);simp[bU];omega;done)|fail):g:=h
 have yn {g:Prop} (h:g:=by first|(obtain⟨hb0,hb2⟩:=hi;have ha_:=(by assumption:_=lW _ _ _∧_);have hb1:=hb0;rw[ha_.1]at hb1;have hb3:=ha_.2;exact wz)|fail):g:=h
 have yq {g:Prop} (h:g:=by first|(refine cn (.mk _ (.mk p.s.N p.s.mh p.s.m p.s.rh p.s.log p.s.ba p.s.com p.s.sh p.s.hs p.s.prm p.s.aa p.s.avh p.s.av p.s.ath p.s.atl p.s.sa p.s.me p.s.th p.s.met p.s.su p.s.jo p.s.go p.s.wa p.s.se p.s.ro p.s.tr p.s.wh p.s.was p.s.be p.s.wc ..) ..) (h:= ?_);exact wo)|(refine wX _ (by first|exact sd|exact ys) ?_;exact wz)|fail):g:=h
 exact wz
noncomputable def mp:NN:=bW mz AO [(0,4),(1,20)]
noncomputable abbrev LM:XC:=Cs
noncomputable abbrev LL:XC:=Cr
noncomputable def ft_tickq':NV (fun e0 e1 e2 b0 b1=>aA [e0,e1,e2] [] [b0,b1] 0x18b442e824405d332a286bc61509b190c402678bb5f319d49f52c353f681c914650bf0c4cbb127a7110faae3709718ccd0cb99a55540ab5dc2a7d3d3f9cd463ea36a2dc7731689b3f4510a049903b3319b6015105e6414cc141af5f51ae1da5b4b524ae9ec1bea4a60339f04483acc3b2bb116bf470c823328cb2f11e9bcb21563292b73be1bbf48b7dab439cf2e4867f587ee50a8047817bca889a2776ef96e4d809d83db94):=⟨_,by conv=>rhs;reduce⟩
noncomputable abbrev Pk:XF:=ft_tickq'.1 (eC 52 2 am) (eC 68 18 aF) (eB 118 33 cB) LM LL
theorem Dp:aK Tryz.prog 50 Pk=true:=by kernel_rfl
structure ai8 where
 s:Si
 v:Qi
 now:Int
 o:List Ou
structure aiM where
 o:List Ou
structure aja where
 s:Si
 v:Qi
 now:Int
structure aiO where
 o:List Ou
noncomputable def Bd:bM:=ce (ce bQ 2 (fun p:ai8=>((.cons 6 (.sy (.prow 1 p.o.length)) (.cons 1 (.sy (.int 0 p.now)) (.cons 0 (.ptr 0 0) .nil))),(gG p.s p.s p.s p.s p.v p.o),12)) (fun p=>ROk p.s.m p.s.me p.s.log p.s.ba p.s.com p.s.hs∧0<p.s.N∧p.s.N<4294967296∧p.o.length≤8) (fun p K=>aj fun r:aiM=>iP (r.o.map Ou.er=p.o.map Ou.er++rK p.s.N p.s.m p.s.me p.s.log p.s.com p.s.hs∧r.o.length≤p.o.length+p.s.m.length) (K 0 (.cons 6 (.sy (.prow 1 r.o.length)) (.cons 1 (.sy (.int 0 p.now)) (.cons 0 (.ptr 0 0) .nil))) (gG p.s p.s p.s p.s p.v r.o) 12) true)) 1 (fun p:aja=>((.cons 6 .nilS (.cons 5 (.ptr 1 0) (.cons 1 (.sy (.int 0 p.now)) (.cons 0 (.ptr 0 0) .nil)))),(.node (.node (.node (.node .leaf (some (aD p.s.go)) .leaf) (some (eL p.s.prm p.s.aa p.s.avh p.s.av p.s.ath p.s.atl)) (.node .leaf (some (.kmap true true false Int p.v.gt am cC)) .leaf)) (some (o_r [] p.s.me)) (.node (.node .leaf (some (bu p.s.log)) .leaf) (some (aD p.s.su)) .leaf)) (some (pM p.s.N p.s.mh p.s.m 2 3 4 p.s.sa p.s.me p.s.th p.s.met 5 p.s.su.length 6 p.s.jo.length 7 p.s.go.length (p.s.wa=true) p.s.se p.s.ro p.s.tr p.s.wh p.s.was 8 p.s.be.length p.s.wc)) (.node (.node (.node .leaf (some (hZ p.s.be)) .leaf) (some (.blk false 161 11 [[.int 1 (.ofNat 0),.sy (.int 3 p.s.N),.sy (.imm p.v.qh 2 Int p.s.m am),.sy (.int 4 p.v.b),.sy (.int 0 p.v.ph),.map 11,.sy (.int 4 p.v.best),.sy (.vl p.v.hh true Vl p.v.held cK),.sy (.imm p.v.qth 18 Ke p.v.qt aF),.sy (.imm p.v.cmh 2 Int p.v.cm am),.sy (.imm p.v.cth 18 Ke p.v.ct aF)]])) .leaf) (some (bZ p.s.N p.s.rh p.s.m p.s.me 9 p.s.log.length p.s.ba p.s.com (p.s.sh=true) 10)) (.node (.node .leaf (some (.kmap true true false (Int×Int) p.s.hs aY aX)) .leaf) (some (aD p.s.jo)) .leaf))),12)) (fun p=>p.s.m.length≤8∧p.s.go.length≤8) (fun p K=>aj fun r:aiO=>iP (r.o.map Ou.er=lW p.s.me p.s.m p.s.go∧r.o.length≤p.s.m.length) (K 0 (.cons 6 (.sy (.prow 1 r.o.length)) (.cons 1 (.sy (.int 0 p.now)) (.cons 0 (.ptr 0 0) .nil))) (gG p.s p.s p.s p.s p.v r.o) 12) true)
theorem aet:bg Tryz.prog 95 1 Bd false 1 LM:=lP (nat:=mp) cq (fun _ _ _ _=>rfl) fun p K hpre hK=>by
 dsimp only at hpre hK ⊢
 obtain⟨G1,G2⟩:=hpre
 have nnr:=trivial
 have nnq:=trivial
 have yp {g:Prop} (h:g:=by first|(first|exact Jc (by assumption) rfl (by assumption:_=cI _ _ _∧_).1|exact SJ (by assumption))|fail):g:=h
 have yq {g:Prop} (h:g:=by first|(refine cn (.mk _ _ (.mk _ _ _ _ _ _ _ _ [] _ _ _ _ [] _ [] _ [] ..) ..) (h:= ?_);exact wo)|fail):g:=h
 exact wz
theorem aer:bg Tryz.prog 95 1 Bd false 2 LL:=lP (nat:=mp) cq (fun _ _ _ _=>rfl) fun p K hpre hK=>by
 dsimp only at hpre hK ⊢
 obtain⟨hr_,g7,g8,G1⟩:=hpre
 have hm:=ah hr_.nl
 have hne:=List.length_pos_iff.2 (List.ne_nil_of_mem hr_.me)
 have nnl:=trivial
 have ys {g:Prop} (h:g:=by first|(have l4_:=nK (by assumption:_=List.map (iT _ _ _ _ _ _) _);rw[akJ]at l4_;simp[bU];omega;done)|fail):g:=h
 have yg {g:Prop} (h:g:=by first|(exact⟨hr_,by omega,by omega⟩)|fail):g:=h
 have yp {g:Prop} (h:g:=by first|(first|(exfalso;omega)|exact Jb ((fF (by assumption)).1 (by first|assumption|exact(by assumption:_=_).symm)) (by assumption:_=List.map (iT _ _ _ _ _ _) _) (by first|rfl|exact jb (by assumption))|exact SG (fun g=>absurd ((fF (by assumption)).2 g) (by first|assumption|exact fun e=>absurd e.symm (by assumption))))|fail):g:=h
 have yz {g:Prop} (h:g:=by first|(have l4_:=nK (by assumption:_=List.map (iT _ _ _ _ _ _) _);rw[akJ]at l4_;simp[bU];omega;done)|fail):g:=h
 have yq {g:Prop} (h:g:=by first|(refine wX _ (by first|exact sd|exact ys) ?_;exact wz)|fail):g:=h
 exact wz
structure aac where
 s:Si
 v:Qi
 now:Int
structure Zf where
 s:Si
 v:Qi
 hh:Value
 o:List Ou
theorem AM:aB Tryz.prog 50 1 (aO (fun p:aac=>([.ptr 0 0,.sy (.int 0 p.now)],(dl p.s p.s p.s p.s p.v),11)) (fun p=>bA (p.s.er none)∧PQOk (p.s.er none) p.v.er∧((p.s.be.length:Int)≤p.s.se∧0<p.s.N)∧0≤p.now∧p.now≤1000000000∧p.s.N+1<4294967295) (fun p K=>aj fun r:Zf=>iP (((r.s.er (some r.v.er)),r.o.map Ou.er)=cg p.now (p.s.er (some p.v.er))∧(r.s.be.length:Int)≤r.s.se∧0<r.s.N) (K (.sy (.imm r.hh 33 Ou r.o cB)) (dl r.s r.s r.s r.s r.v) 11) true)):=nF (nat:=mp) Dp (fun b j x h=>(cu aet (fun h=>(cu aer (fun h=>(by cases h)) h)) h)) fun p K hpre hK=>by
 dsimp only at hpre hK ⊢
 obtain⟨hs,hv,b1,n1,n2,t3⟩:=hpre
 have hq:=PQOk.qok hs hv
 have qc:=hq.cm
 have qt:=hq.ct
 have hr_:=hs.r
 have mb:=hs.r.nl.2 _ hs.r.me
 dsimp only[Si.er]at hr_ mb
 have g3:=hs.sa0
 have g4:=hs.sa1
 have hm:=ah hs.r.nl
 have g5:=hs.r.nl
 have g6:=List.ne_nil_of_mem hs.r.me
 have g7:=hs.n0
 have g8:=hs.n1
 have g9:=ah hs.su
 have g10:=ah hs.go
 have g11:=ah hs.jo
 have g12:=hs.jo.2
 have g13:=hs.tr0
 have g14:=hs.tr1
 dsimp only[Si.er]at g3 g4 hm g5 g6 g7 g8 g9 g10 g11 g12 g13 g14
 have nnx:=trivial
 have nnr:=trivial
 have nnl:=trivial
 have ys {g:Prop} (h:g:=by first|(have l2_:=ah g5;(try have l1_:=kK (by assumption:_=eO _ _ _ _));(try have l3_:=oW hs hv n1 n2 (by assumption:_=ey _ _∧_).1);simp[bU];omega;done)|fail):g:=h
 have yg {g:Prop} (h:g:=by first|(first|exact mb|omega)|(first|exact⟨g7,mb⟩|omega)|(exact⟨hm,g10⟩)|(exact⟨hr_,g7,by omega,by(have e:=(by assumption:_=lW _ _ _∧_).2;omega)⟩)|(exact⟨hm,by omega,by omega⟩)|fail):g:=h
 have yp {g:Prop} (h:g:=by first|(first|exact⟨ajx (s:=p.s) g7 hb1 (by assumption:_=eO _ _ _ _) (by first|rfl|exact jb (by assumption)),b1⟩)|fail):g:=h
 have yz {g:Prop} (h:g:=by first|(have l2_:=ah g5;(try have l1_:=kK (by assumption:_=eO _ _ _ _));(try have l3_:=oW hs hv n1 n2 (by assumption:_=ey _ _∧_).1);simp[bU];omega;done)|fail):g:=h
 have yn {g:Prop} (h:g:=by first|(obtain⟨hb0,hb2⟩:=hi;have ha_:=(by assumption:_=lW _ _ _∧_);have hb1:=hb0;rw[ha_.1]at hb1;have hb3:=ha_.2;exact wz)|fail):g:=h
 have yq {g:Prop} (h:g:=by first|(refine cn (.mk _ _ _ _ (.mk _ _ _ p.v.best p.v.hh p.v.held ..) ..) (h:= ?_);exact wo)|(refine wX _ (by first|exact sd|exact ys) ?_;exact wz)|fail):g:=h
 exact wz
noncomputable def xJ:NN:=bW mp AM [(0,4),(1,20)]
noncomputable def ft_ticko':NV (fun e0 e1 e2=>aA [e0,e1,e2] [] [] 0xba43d260206bf13072dfe7cba63a42da63c9800f936751c197d6d5060d95fde2fa15444b3215ba5e4cabb3ff77609c49692aaedf33afc794c333f4c713897f069f9bf1a08a6e9bbcd111b78bf9366fad60ddad9aa63f11e9a649ec5b45821b3fc7bd8f5c5eb5f14cba90f79716722f30938eaaa1a85684cb48a10cfafbbf096a79aafecac175bfd5054761f1b47e30a3323bd20152b5533e281a7a9e6390567195af2a56ba92554724a3b756bce9a65e7aacd3d1c096903df5441b5fa12f8bd484e53e2356f09c6c1fa6900b16f1a49e091a0275bd3614f9d559ec5eec211c7244b44b7b5c3402d6ad4234e67d161977ec8354ac775dc1d55):=⟨_,by conv=>rhs;reduce⟩
noncomputable abbrev Pl:XF:=ft_ticko'.1 (eC 52 2 am) (eC 68 18 aF) (eB 118 33 cB)
theorem Dq:aK Tryz.prog 50 Pl=true:=by kernel_rfl
structure aad where
 s:So
 now:Int
structure Zg where
 s:So
 hh:Value
 o:List Ou
theorem AN:aB Tryz.prog 50 1 (aO (fun p:aad=>([.ptr 0 0,.sy (.int 0 p.now)],(da p.s),5)) (fun p=>jY p.s.er∧(p.s.be.length:Int)≤p.s.se∧0≤p.now∧p.now≤1000000000) (fun p K=>aj fun r:Zg=>iP ((r.s.er,r.o.map Ou.er)=cg p.now p.s.er∧(r.s.be.length:Int)≤r.s.se) (K (.sy (.imm r.hh 33 Ou r.o cB)) (da r.s) 5) true)):=nE (nat:=xJ) Dq fun p K hpre hK=>by
 dsimp only at hpre hK ⊢
 obtain⟨hs,b1,n1,n2⟩:=hpre
 have mb:=hs.me
 have tl_:=ah hs.met
 dsimp only[So.er]at mb tl_
 have nnx:=trivial
 have nnr:=trivial
 have yg {g:Prop} (h:g:=by first|(first|exact mb|omega)|(exact mb)|fail):g:=h
 have yp {g:Prop} (h:g:=by first|(first|exact⟨acN (u:=p.s) (by assumption),b1⟩|exact⟨UK (u:=p.s) (by first|assumption|exact Classical.not_not.1 (by assumption)) rfl (by assumption:_=cI _ _ _∧_).1,b1⟩)|fail):g:=h
 have yq {g:Prop} (h:g:=by first|(refine cn (.mk _ _ (.mk _ _ _ _ _ _ _ _ [] _ _ _ _ [] _ [] _ [] ..) ..) (h:= ?_);exact wo)|fail):g:=h
 exact wz
noncomputable def br:NN:=bW xJ AN [(0,4),(1,20)]
end Go.Proofs.Tryz
