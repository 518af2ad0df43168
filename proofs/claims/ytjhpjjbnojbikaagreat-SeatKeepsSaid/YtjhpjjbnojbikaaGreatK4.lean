/- Definitions and lemmas of the proof, without a condition of their own. -/
import Derived.Test.YtjhpjjbnojbikaaGreatK4c
import Derived.KernelRfl
set_option linter.unusedSimpArgs false
set_option linter.unusedVariables false
open List renaming eq_nil_of_length_eq_zero→amo,length_append→al2,length_cons→al3,length_drop→amr,length_map→al4,length_nil→al5,length_take→ami,map_append→amg
open Nat renaming le_refl→amj
open Option.some renaming inj→amp
namespace Go.Proofs.Tryz
open Go Go.RowKit Go.Sy
open Go.Eng hiding aj
set_option maxRecDepth 1000000
set_option linter.unusedVariables false
set_option maxHeartbeats 4000000
attribute [local irreducible] aq
noncomputable def yr:NN:=gj yt OY [(0,4),(1,20),(2,15),(3,15)] (fun us M=>Ht M 0 5)
noncomputable def ft_heedG':NV (aB [] [] [] 0x346cb5d199f73580b13c8cb929e7427a868a6d15f4313d3f2f113412deae01d24900d71d687baf6df292bd2cda7d1f3840a44057a99f703b3d999b37623404ea2c90a3fb5282b94d44):=⟨_,by conv=>rhs;reduce⟩
noncomputable abbrev Qy:XF:=ft_heedG'.1
theorem Eg:aK Tryz.prog 74 Qy=true:=by kernel_rfl
structure abJ where
 q:Nat→Value
 fr:Int
 m:Mg
theorem OR:aA Tryz.prog 74 1 (aO (fun p:abJ=>([.ptr 0 0,eL p.fr,kB p.m.k p.m.N p.m.fr p.m.c p.m.b p.m.acc [] p.m.vn p.m.vh p.m.vl p.m.pn p.m.pl (p.m.has=true) p.m.mh p.m.ml p.m.h p.m.l p.m.th p.m.tl],(.node .leaf (some (o_C p.q)) .leaf),1)) (fun p=>cJ p.m.er∧0≤p.fr∧p.fr<8) (fun p K=>K (.bool true) (.node .leaf (some (o_C p.q)) .leaf) 1)):=nE (nat:=yr) Eg fun p K hpre hK=>by
 dsimp only at hpre hK ⊢
 obtain⟨hM,fr1,fr2⟩:=hpre
 have hk:=uT hM
 dsimp only[Mg.er]at hk
 have yd {g:Prop} (h:g:=by first|(exfalso;omega)|fail):g:=h
 have yg {g:Prop} (h:g:=by first|(exact hM)|fail):g:=h
 exact wz
noncomputable def yi:NN:=iV yr OR [(0,4),(1,15),(2,15)] [0,1,2,3,4,5,6,8,9,10,11,12,13,14,15,16,17,18,19,20]
noncomputable def ft_noneG':NV (aB [] [] [] 0x190182ff43b410fec7ee4603308fc173d269669d31):=⟨_,by conv=>rhs;reduce⟩
noncomputable abbrev Qo:XF:=ft_noneG'.1
theorem DX:aK Tryz.prog 32 Qo=true:=by kernel_rfl
structure abA where
 q:Nat→Value
 me:Int
theorem OI:aA Tryz.prog 32 1 (aO (fun p:abA=>([.ptr 0 0],(.node .leaf (some (sq p.q p.me)) .leaf),1)) (fun p=>0≤p.me∧p.me<8) (fun p K=>K (.bool false) (.node .leaf (some (sq p.q p.me)) .leaf) 1)):=nE (nat:=yi) DX fun p K hpre hK=>by
 dsimp only at hpre hK ⊢
 obtain⟨g1,g2⟩:=hpre
 have yd {g:Prop} (h:g:=by first|(exfalso;omega)|fail):g:=h
 exact wz
noncomputable def xZ:NN:=iV yi OI [(0,4)] [0,1,2,3,4,5,6,7,10,11,12,13,14,15,16,17,18,19,20]
noncomputable def ft_inG':NV (aB [] [] [] 0xae9484b4983d011a3f6cdff60768ec16657c082d20483bf):=⟨_,by conv=>rhs;reduce⟩
noncomputable abbrev agv:XF:=ft_inG'.1
theorem LV:aK Tryz.prog 19 agv=true:=by kernel_rfl
structure akQ where
 q:Nat→Value
 N:Int
 me:Int
theorem afc:aA Tryz.prog 19 1 (aO (fun p:akQ=>([.ptr 0 0],(.node .leaf (some (o_B p.q p.N p.me)) .leaf),1)) (fun p=>0<p.N∧0≤p.me∧p.me<8) (fun p K=>K (.bool true) (.node .leaf (some (o_B p.q p.N p.me)) .leaf) 1)):=nE (nat:=xZ) LV fun p K hpre hK=>by
 dsimp only at hpre hK ⊢
 obtain⟨g1,g2,g3⟩:=hpre
 have yg {g:Prop} (h:g:=by first|(first|exact mb|omega)|fail):g:=h
 exact wz
noncomputable def Fq:NN:=iV xZ afc [(0,4)] [0,2,3,4,5,6,7,10,11,12,13,14,15,16,17,18,19,20]
noncomputable def ft_inoG':NV (aB [] [] [] 0x594abc3a0382cee753b20f6e3b8862076c8979a):=⟨_,by conv=>rhs;reduce⟩
noncomputable abbrev Zi:XF:=ft_inoG'.1
theorem IH:aK Tryz.prog 19 Zi=true:=by kernel_rfl
structure aiI where
 s:So
theorem Xl:aA Tryz.prog 19 5 (aO (fun p:aiI=>([.ptr 0 0],(di p.s),5)) (fun p=>0≤p.s.me∧p.s.me<8) (fun p K=>K (.bool false) (di p.s) 5)):=nE (nat:=Fq) IH fun p K hpre hK=>by
 dsimp only at hpre hK ⊢
 obtain⟨g1,g2⟩:=hpre
 have yg {g:Prop} (h:g:=by first|(first|exact mb|omega)|fail):g:=h
 exact wz
noncomputable def AX:NN:=gj Fq Xl [(0,4)] (fun us M=>Ie M 0 1)
def eY (m l:List Int) (p:Int):List Int:=if p∈m∧¬p∈l then l++[p] else l
theorem ly {m l:List Int} {p:Int} (h:¬p∈m∨p∈l):l=eY m l p:=by unfold eY;rw[if_neg fun g=>h.elim (fun h=>h g.1) g.2]
theorem tm {m l:List Int} {p:Int} (h:p∈m) (h2:¬p∈l):l++[p]=eY m l p:=by unfold eY;rw[if_pos ⟨h,h2⟩]
noncomputable def ft_goesG':NV (aB [] [] [] 0xb96d61da5a41aa9f9b32490ebfad251a68524a6c5d8):=⟨_,by conv=>rhs;reduce⟩
noncomputable abbrev QC:XF:=ft_goesG'.1
theorem Ek:aK Tryz.prog 39 QC=true:=by kernel_rfl
structure abN where
 q:Nat→Value
 N:Int
 mh:Value
 m:List Int
 go:List Int
 p:Int
structure aa7 where
 go:List Int
theorem OT:aA Tryz.prog 39 1 (aO (fun p:abN=>([.ptr 0 0,eL p.p],(.node (.node .leaf (some (aE p.go)) .leaf) (some (o_y p.N p.mh p.m p.q p.go.length)) .leaf),2)) (fun p=>p.m.length≤8∧p.go.length≤8) (fun p K=>aj fun r:aa7=>iP (r.go=eY p.m p.go p.p) (K (.tup []) (.node (.node .leaf (some (aE r.go)) .leaf) (some (o_y p.N p.mh p.m p.q r.go.length)) .leaf) 2) true)):=nE (nat:=AX) Ek fun p K hpre hK=>by
 dsimp only at hpre hK ⊢
 obtain⟨g1,g2⟩:=hpre
 have nnq:=trivial
 have ys {g:Prop} (h:g:=by first|(simp[bR];omega;done)|fail):g:=h
 have yp {g:Prop} (h:g:=by first|(first|exact ly (.inl (by assumption))|exact ly (.inr (by first|assumption|exact Classical.not_not.1 (by assumption)))|exact tm (by first|assumption|exact Classical.not_not.1 (by assumption)) (by assumption))|fail):g:=h
 have yq {g:Prop} (h:g:=by first|(refine wX [_] (by first|exact sd|exact ys) ?_;exact wz)|fail):g:=h
 exact wz
noncomputable def mZ:NN:=iV AX OT [(0,4),(1,15)] [3,4,5,6,7,8,9,10,11,12,14,15,16,17,18,19,20]
def px (s:St) (fr:Int) (m:Mx):St×List (Int×Mx):=if 0<s.N then
  let r:=eP s.N s.me s.m s.log s.ba s.com s.sh s.se fr m
  ({s with log:=r.1.1,com:=r.1.2},r.2)
 else (s,nN s.me s.se fr m)
def bm (now:Int) (s:St) (fr:Int) (m:Mx):St×List (Int×Mx):=
 if m.k=10 then (if s.se<m.vn then bM now s m.vn m.vl m.l else s,[]) else
 if m.k=3∧¬m.N<s.N then px s fr m else
 if 0<s.N∧m.N<s.N∧(m.k=3∨m.k=4∨m.k=5∨m.k=9) then (s,cB s.me (BW s) [fr]) else
 if 0<s.N∧m.k=11 then ({s with jo:=(dm s.N s.me s.m s.log s.ba s.jo m.pn).1},(dm s.N s.me s.m s.log s.ba s.jo m.pn).2) else
 if ¬0<s.N∨¬m.N=s.N then (if 0<s.N∧m.k=12 then {s with go:=eY s.m s.go m.pn} else s,[]) else fK now s fr m
section
variable {now fr:Int} {s:St} {m:Mx} {y:St×List (Int×Mx)}
theorem zN (hk:m.k=10):bm now s fr m=(if s.se<m.vn then bM now s m.vn m.vl m.l else s,[]):=by unfold bm;rw[if_pos hk]
theorem agm (hk:m.k=3) (h:¬m.N<s.N):bm now s fr m=px s fr m:=by unfold bm;rw[if_neg (by omega),if_pos ⟨hk,h⟩]
theorem agk (hN:0<s.N) (ho:m.N<s.N) (hk:m.k=3∨m.k=4∨m.k=5∨m.k=9):bm now s fr m=(s,cB s.me (BW s) [fr]):=by
 unfold bm
 rw[if_neg (by omega),if_neg (fun g=>g.2 ho),if_pos ⟨hN,ho,hk⟩]
theorem aj5 (hN:0<s.N) (hk:m.k=11):bm now s fr m=({s with jo:=(dm s.N s.me s.m s.log s.ba s.jo m.pn).1},(dm s.N s.me s.m s.log s.ba s.jo m.pn).2):=by
 unfold bm
 rw[if_neg (by omega),if_neg (by omega),if_neg (by omega),if_pos ⟨hN,hk⟩]
theorem Ii (h10:¬m.k=10) (h3:¬(m.k=3∧¬m.N<s.N)) (h:¬0<s.N∨(¬m.N=s.N∧¬(m.N<s.N∧(m.k=3∨m.k=4∨m.k=5∨m.k=9))∧¬m.k=11)):bm now s fr m=(if 0<s.N∧m.k=12 then {s with go:=eY s.m s.go m.pn} else s,[]):=by
 unfold bm
 rw[if_neg h10,if_neg h3,if_neg (by omega),if_neg (by omega),if_pos (by omega)]
theorem agl (hN:0<s.N) (he:m.N=s.N) (hk:4≤m.k∧m.k≤9):bm now s fr m=fK now s fr m:=by
 unfold bm
 rw[if_neg (by omega),if_neg (by omega),if_neg (by omega),if_neg (by omega),if_neg (by omega)]
end
section
variable {now fr:Int} {s:Si} {u:So} {q:Option Pq} {m:Mg} {y:St×List (Int×Mx)} {o:List Ou}
theorem LD (hk:m.k=10) (h:s.se<m.vn) {z:St} (hy:z=bM now (s.er none) m.vn m.vl m.l):(z,([]:List Ou).map Ou.er)=bm now (s.er q) fr m.er:=by rw[zN (m:=m.er) hk,if_pos (show(s.er q).se<m.er.vn from h),hy];rfl
theorem LF (hk:m.k=10) (h:¬s.se<m.vn):(s.er q,([]:List Ou).map Ou.er)=bm now (s.er q) fr m.er:=by rw[zN (m:=m.er) hk,if_neg (show¬(s.er q).se<m.er.vn from h)];rfl
theorem agj (hN:0<s.N) (hk:m.k=3) (h:¬m.N<s.N) {lg:List Ke} {cm:Int} (hy:((lg,cm),o.map Ou.er)=eP s.N s.me s.m s.log s.ba s.com s.sh s.se fr m.er):(({s with log:=lg,com:=cm}:Si).er q,o.map Ou.er)=bm now (s.er q) fr m.er:=by
 rw[agm (s:=s.er q) (m:=m.er) hk h]
 unfold px
 rw[if_pos (show 0<(s.er q).N from hN),show eP (s.er q).N (s.er q).me (s.er q).m (s.er q).log (s.er q).ba (s.er q).com (s.er q).sh (s.er q).se fr m.er=((lg,cm),o.map Ou.er) from hy.symm];rfl
theorem LA {N me fr ba:Int} {m:List Int} {log:List Ke} {z:Mg} (hf:¬fr=me) (hz:z.er={aF 10 with vn:=N,vl:=m,l:=log.take ba.toNat}):[(⟨fr,z⟩:Ou)].map Ou.er=cB me {aF 10 with vn:=N,vl:=m,l:=log.take ba.toNat} [fr]:=by
 rw[←EF hf,←hz];rfl
theorem LB (hN:0<s.N) (ho:m.N<s.N) (hk:m.k=3∨m.k=4∨m.k=5∨m.k=9) (h:o.map Ou.er=cB s.me {aF 10 with vn:=s.N,vl:=s.m,l:=s.log.take s.ba.toNat} [fr]):(s.er q,o.map Ou.er)=bm now (s.er q) fr m.er:=by
 rw[agk (s:=s.er q) (m:=m.er) hN ho hk,h];rfl
theorem Ux (hN:0<s.N) (hk:m.k=11) {jo:List Int} (hy:(jo,o.map Ou.er)=dm s.N s.me s.m s.log s.ba s.jo m.pn):(({s with jo:=jo}:Si).er q,o.map Ou.er)=bm now (s.er q) fr m.er:=by
 rw[aj5 (s:=s.er q) (m:=m.er) hN hk,show dm (s.er q).N (s.er q).me (s.er q).m (s.er q).log (s.er q).ba (s.er q).jo m.er.pn=(jo,o.map Ou.er) from hy.symm];rfl
theorem Uw (hN:0<s.N) (hk:m.k=12) (h0:m.N=0) {go:List Int} (hy:go=eY s.m s.go m.pn):(({s with go:=go}:Si).er q,([]:List Ou).map Ou.er)=bm now (s.er q) fr m.er:=by
 have hk2:m.er.k=12:=hk
 have h02:m.er.N=0:=h0
 have hN2:0<(s.er q).N:=hN
 rw[Ii (s:=s.er q) (m:=m.er) (by omega) (by omega) (by omega),if_pos ⟨hN2,hk2⟩,hy];rfl
theorem FM (h10:¬m.k=10) (h3:¬(m.k=3∧¬m.N<s.N)) (hN:0<s.N) (h:¬m.N=s.N∧¬(m.N<s.N∧(m.k=3∨m.k=4∨m.k=5∨m.k=9))∧¬m.k=11∧¬m.k=12):(s.er q,([]:List Ou).map Ou.er)=bm now (s.er q) fr m.er:=by
 rw[Ii (s:=s.er q) (m:=m.er) h10 h3 (.inr ⟨h.1,h.2.1,h.2.2.1⟩),if_neg (fun g=>h.2.2.2 g.2)];rfl
theorem LC (hN:0<s.N) (he:m.N=s.N) (hk:4≤m.k∧m.k≤9) (hy:y=fK now (s.er q) fr m.er):y=bm now (s.er q) fr m.er:=by rw[agl (s:=s.er q) (m:=m.er) hN he hk,hy]
theorem agn (hk:m.k=10) (h:u.se<m.vn) {z:St} (hy:z=bM now u.er m.vn m.vl m.l):(z,([]:List Ou).map Ou.er)=bm now u.er fr m.er:=by rw[zN (m:=m.er) hk,if_pos (show u.er.se<m.er.vn from h),hy];rfl
theorem ago (hk:m.k=10) (h:¬u.se<m.vn):(u.er,([]:List Ou).map Ou.er)=bm now u.er fr m.er:=by rw[zN (m:=m.er) hk,if_neg (show¬u.er.se<m.er.vn from h)];rfl
theorem alE (hk:m.k=3) (h:¬m.N<0) (hy:o.map Ou.er=nN u.me u.se fr m.er):(u.er,o.map Ou.er)=bm now u.er fr m.er:=by
 rw[agm (s:=u.er) (m:=m.er) hk h,hy]
 unfold px
 rw[if_neg (show¬0<u.er.N from by show¬(0:Int)<0;decide)];rfl
theorem aj6 (h10:¬m.k=10) (h3:¬(m.k=3∧¬m.N<0)):(u.er,([]:List Ou).map Ou.er)=bm now u.er fr m.er:=by
 have hN:¬0<u.er.N:=by show¬(0:Int)<0;decide
 rw[Ii (s:=u.er) (m:=m.er) h10 h3 (.inl hN),if_neg (fun g=>hN g.1)];rfl
end
theorem Pg {m:Mg} (h:cJ m.er) (e:m.k=10):0<m.vn∧NL m.vl∧¬m.vl=[]∧m.l.length≤400:=by
 have z:=Br h e
 unfold JB at z
 exact⟨z.2.2.2.2.2.2.2.2.2.2.1,z.2.2.2.2.2.2.2.2.2.2.2.1,z.2.2.2.2.2.2.2.2.2.2.2.2.1,z.2.2.2.2.2.2.2.2.2.2.2.2.2.2⟩
theorem HO {m:Mg} (h:cJ m.er) (e:m.k=11):0≤m.pn∧m.pn<8:=by
 have z:=uV h e
 unfold Dr at z
 simp only[Mg.er]at z;omega
theorem Up {m:Mg} (h:cJ m.er) (e:m.k=11):m.pl=1:=by
 have z:=uV h e
 unfold Dr at z
 simp only[Mg.er]at z;omega
theorem wZ {m:Mg} (h:cJ m.er) (e:m.k=12):m.N=0:=by
 have z:=Bp h e
 unfold Dq at z
 simp only[Mg.er]at z;omega
theorem Uo {m:Mg} (h:cJ m.er) (e:m.k=12):m.pl=1:=by
 have z:=Bp h e
 unfold Dq at z
 simp only[Mg.er]at z;omega
noncomputable def bd_hzn':NV (df [] [] [] 0xc9ac194493204439dab20457e0bcaee830acdcbed467057bb9b8ee148):=⟨_,by conv=>rhs;reduce⟩
noncomputable abbrev Db:XC:=bd_hzn'.1
noncomputable def bd_htn':NV (fun e0=>df [e0] [] [] 0x4459f88d58a73cad2162fd925f7fc4006f0a916889a479342ec7f58d4ae55cf73711a2170aafef988ebf3bf812bec48dc8a57e014a23aab2a0e):=⟨_,by conv=>rhs;reduce⟩
noncomputable abbrev Dc:XC:=bd_htn'.1 (eB 118 33 cE)
noncomputable def ft_hearn':NV (fun e0 b0 b1=>aB [e0] [] [b0,b1] 0x8926e7e91b6c3319a8a94f1f55915d439d5a7eb26c6c27ca7d54202be03951123361482819cec16cd5c02871e5029642425d29ee03908ee9445dc0523905ad849af6f5eed1108cf01be7763836834400e263600d976522c921af4a3ec5e8c0445fbbc9df7a2050f511656e79adf6642e94c23c4c5214ae07ec2d641fcaf1392a409bce7fe9a31032b829fa5c2945f22b52471392a10da656ea0c54d100eee2204e13263a146b9d2bdccf3dafa6dd49bc9ccd09250386c695aa3725b09515d8336f2dec2d02288c18daf327a36945d1af04daafb95ab7c9ef7795858ee93fb5270afd6329f6d5f18cf5ffb27e85dbc9149d597f):=⟨_,by conv=>rhs;reduce⟩
noncomputable abbrev QB:XF:=ft_hearn'.1 (eB 118 33 cE) Db Dc
theorem Ej:aK Tryz.prog 51 QB=true:=by kernel_rfl
structure akU where
 s:Si
 now:Int
 fr:Int
structure akw where
 o:List Ou
structure akS where
 s:Si
 now:Int
 fr:Int
 m:Mg
structure aku where
 z:Prop
noncomputable def BB:bN:=cq (cq bT 2 (fun p:akU=>((.cons 6 (.ptr 1 0) (.cons 0 (.ptr 0 0) .nil)),(.node (.node (.node (.node .leaf (some (iy p.s.be)) .leaf) (some (eX p.s.prm p.s.aa p.s.avh p.s.av p.s.ath p.s.atl)) .leaf) (some (iU p.fr)) (.node (.node .leaf (some (.kmap true true false (Int×Int) p.s.hs aX aW)) .leaf) (some (aE p.s.jo)) .leaf)) (some (Fe p.s.N p.s.mh p.s.m 2 3 p.s.sa p.s.me p.s.th p.s.met 4 p.s.su.length 5 p.s.jo.length 6 p.s.go.length (p.s.wa=true) p.s.se p.s.ro p.s.tr p.s.wh p.s.was 7 p.s.be.length p.s.wc)) (.node (.node (.node .leaf (some (bu p.s.log)) .leaf) (some (aE p.s.su)) .leaf) (some (ce p.s.N p.s.rh p.s.m p.s.me 8 p.s.log.length p.s.ba p.s.com (p.s.sh=true) 9)) (.node .leaf (some (aE p.s.go)) .leaf))),10)) (fun p=>p.s.log.length≤400∧0≤p.s.ba∧p.s.ba≤(p.s.log.length:Int)∧p.s.m.length≤8) (fun p K=>aj fun r:akw=>iP (r.o.map Ou.er=cB p.s.me {aF 10 with vn:=p.s.N,vl:=p.s.m,l:=p.s.log.take p.s.ba.toNat} [p.fr]) (K 0 (.cons 8 (.sy (.prow 1 r.o.length)) .nil) (fQ p.s p.s p.s r.o) 10) true)) 1 (fun p:akS=>((.cons 29 (.sy (.int 1 p.m.k)) (.cons 9 (.sy (.bool (p.m.N<p.s.N))) (.cons 7 (.ptr 2 0) (.cons 6 (.ptr 1 0) (.cons 1 (.sy (.int 0 p.now)) (.cons 0 (.ptr 0 0) .nil)))))),(.node (.node (.node (.node .leaf (some (aE p.s.go)) .leaf) (some (ce p.s.N p.s.rh p.s.m p.s.me 9 p.s.log.length p.s.ba p.s.com (p.s.sh=true) 10)) .leaf) (some (iU p.fr)) (.node (.node .leaf (some (bu p.s.log)) .leaf) (some (aE p.s.su)) .leaf)) (some (Fe p.s.N p.s.mh p.s.m 3 4 p.s.sa p.s.me p.s.th p.s.met 5 p.s.su.length 6 p.s.jo.length 7 p.s.go.length (p.s.wa=true) p.s.se p.s.ro p.s.tr p.s.wh p.s.was 8 p.s.be.length p.s.wc)) (.node (.node (.node .leaf (some (iy p.s.be)) .leaf) (some (eX p.s.prm p.s.aa p.s.avh p.s.av p.s.ath p.s.atl)) .leaf) (some (Ff p.m.k p.m.N p.m.fr p.m.c p.m.b p.m.acc [] p.m.vn p.m.vh p.m.vl p.m.pn p.m.pl (p.m.has=true) p.m.mh p.m.ml p.m.h p.m.l p.m.th p.m.tl)) (.node (.node .leaf (some (.kmap true true false (Int×Int) p.s.hs aX aW)) .leaf) (some (aE p.s.jo)) .leaf))),11)) (fun _=>True) (fun p K=>aj fun r:aku=>iP (r.z↔(p.m.k=4∨p.m.k=5∨p.m.k=9)) (K 0 (.cons 34 (.sy (.bool r.z)) (.cons 29 (.sy (.int 1 p.m.k)) (.cons 9 (.sy (.bool (p.m.N<p.s.N))) (.cons 7 (.ptr 2 0) (.cons 6 (.ptr 1 0) (.cons 1 (.sy (.int 0 p.now)) (.cons 0 (.ptr 0 0) .nil))))))) (.node (.node (.node (.node .leaf (some (aE p.s.go)) .leaf) (some (ce p.s.N p.s.rh p.s.m p.s.me 9 p.s.log.length p.s.ba p.s.com (p.s.sh=true) 10)) .leaf) (some (iU p.fr)) (.node (.node .leaf (some (bu p.s.log)) .leaf) (some (aE p.s.su)) .leaf)) (some (Fe p.s.N p.s.mh p.s.m 3 4 p.s.sa p.s.me p.s.th p.s.met 5 p.s.su.length 6 p.s.jo.length 7 p.s.go.length (p.s.wa=true) p.s.se p.s.ro p.s.tr p.s.wh p.s.was 8 p.s.be.length p.s.wc)) (.node (.node (.node .leaf (some (iy p.s.be)) .leaf) (some (eX p.s.prm p.s.aa p.s.avh p.s.av p.s.ath p.s.atl)) .leaf) (some (Ff p.m.k p.m.N p.m.fr p.m.c p.m.b p.m.acc [] p.m.vn p.m.vh p.m.vl p.m.pn p.m.pl (p.m.has=true) p.m.mh p.m.ml p.m.h p.m.l p.m.th p.m.tl)) (.node (.node .leaf (some (.kmap true true false (Int×Int) p.s.hs aX aW)) .leaf) (some (aE p.s.jo)) .leaf))) 11) true)
theorem afO:bj Tryz.prog 105 1 BB false 1 Db:=lP (nat:=mZ) cy (fun _ _ _ _=>rfl) fun p K hpre hK=>by
 dsimp only at hpre hK ⊢
 have yp {g:Prop} (h:g:=by first|(first|omega|exact⟨fun _=>by omega,fun _=>rfl⟩)|fail):g:=h
 exact wz
theorem afQ:bj Tryz.prog 105 1 BB false 2 Dc:=lP (nat:=mZ) cy (fun _ _ _ _=>rfl) fun p K hpre hK=>by
 dsimp only at hpre hK ⊢
 obtain⟨g1,g2,g3,g4⟩:=hpre
 have yg {g:Prop} (h:g:=by first|(refine⟨?_,?_,?_,?_⟩<;>omega)|fail):g:=h
 have yp {g:Prop} (h:g:=by first|(first|exact LA (by assumption) (by assumption:_={aF 10 with vn:=p.s.N,vl:=p.s.m,l:=p.s.log.take p.s.ba.toNat})|exact Al (by first|assumption|exact Classical.not_not.1 (by assumption)))|fail):g:=h
 have yq {g:Prop} (h:g:=by first|(refine wX [(.mk _ (.mk ..) ..)] (by first|exact sd|exact ys) ?_;exact wz)|fail):g:=h
 exact wz
structure abM where
 s:Si
 now:Int
 fr:Int
 m:Mg
structure aa6 where
 s:Si
 hh:Value
 o:List Ou
structure RR where
 s:So
 hh:Value
 o:List Ou
theorem Bo:aA Tryz.prog 51 1 (aO (fun p:abM=>([.ptr 0 0,.sy (.int 0 p.now),eL p.fr,kB p.m.k p.m.N p.m.fr p.m.c p.m.b p.m.acc [] p.m.vn p.m.vh p.m.vl p.m.pn p.m.pl (p.m.has=true) p.m.mh p.m.ml p.m.h p.m.l p.m.th p.m.tl],(dv p.s p.s p.s),9)) (fun p=>bz (p.s.er none)∧rb (p.s.er none)∧((p.s.be.length:Int)≤p.s.se∧0<p.s.N)∧0≤p.now∧p.now≤1000000000∧cJ p.m.er∧p.m.vn<4294967295∧0≤p.fr∧p.fr<8∧p.s.N+1<4294967295) (fun p K=>ae (aj fun r:aa6=>iP (((r.s.er none),r.o.map Ou.er)=bm p.now (p.s.er none) p.fr p.m.er∧(r.s.be.length:Int)≤r.s.se∧0<r.s.N) (K (.sy (.imm r.hh 33 Ou r.o cE)) (dv r.s r.s r.s) 9) true) (aj fun r:RR=>iP ((r.s.er,r.o.map Ou.er)=bm p.now (p.s.er none) p.fr p.m.er∧(r.s.be.length:Int)≤r.s.se) (K (.sy (.imm r.hh 33 Ou r.o cE)) (di r.s) 5) true))):=nF (nat:=mZ) Ej (fun b j x h=>(cW afO (fun h=>(cW afQ (fun h=>(by cases h)) h)) h)) fun p K hpre hK=>by
 dsimp only at hpre hK ⊢
 obtain⟨hK0,hKr0⟩:=ac hK
 have hK1:=hKr0
 obtain⟨hs,hv,b1,n1,n2,hM,vn1,fr1,fr2,t3⟩:=hpre
 have hk:=uT hM
 have mN:=hM.2.2.1
 dsimp only[Mg.er]at hk mN
 have hr_:=hs.r
 have ba0:=hs.r.ba0
 have ba1:=hs.r.ba1
 have hl_:=hs.r.len
 have mb:=hs.r.nl.2 _ hs.r.me
 have se_:=hs.se
 dsimp only[Si.er]at hr_ ba0 ba1 hl_ mb se_
 have g3:=hs.sa0
 have g4:=hs.sa1
 have hm:=ah hs.r.nl
 have g5:=hs.r.nl
 have g6:=List.ne_nil_of_mem hs.r.me
 have g7:=hs.n0
 have g8:=hs.n1
 have g9:=ah hs.su
 have g10:=ah hs.go
 have g11:=ah hs.jo
 have g12:=hs.jo.2
 have g13:=hs.tr0
 have g14:=hs.tr1
 dsimp only[Si.er]at g3 g4 hm g5 g6 g7 g8 g9 g10 g11 g12 g13 g14
 have nnx:=trivial
 have nnr:=trivial
 have nnq:=trivial
 have ys {g:Prop} (h:g:=by first|(first|(have z:=HO hM (by assumption);have z2:=Up hM (by assumption);omega)|(have z2:=Uo hM (by assumption);omega))|fail):g:=h
 have yg {g:Prop} (h:g:=by first|(first|exact mb|omega)|(exact⟨hM,fr1,fr2⟩)|(have z:=Pg hM (by assumption);exact⟨hs,n1,n2,z.2.1,z.2.2.1,z.1,by omega,z.2.2.2,by omega,b1⟩)|(exact⟨hr_,g7,zG hM (by assumption),fr1,fr2⟩)|(first|exact⟨g7,mb⟩|omega)|(refine⟨?_,?_,?_,?_⟩<;>omega)|(first|exact⟨hs,hv,b1,n1,n2,t3,hM,by omega,by omega⟩|(exfalso;omega)|(exfalso;have z:=wZ hM (by assumption);omega))|(have z:=HO hM (by assumption);exact⟨hr_,hs.jo,z⟩)|(exact⟨hm,g10⟩)|fail):g:=h
 have yp {g:Prop} (h:g:=by first|(first|(exfalso;first|omega|(have zz:=wZ hM (by assumption);omega))|exact⟨LD (s:=p.s) (m:=p.m) (by assumption) (by assumption) (by assumption:_∧_=bM _ _ _ _ _∧_).2.1,(by assumption:_∧_=bM _ _ _ _ _∧_).2.2⟩|exact⟨LF (s:=p.s) (m:=p.m) (by assumption) (by assumption),b1⟩|exact⟨agj (s:=p.s) (m:=p.m) g7 (by assumption) (by assumption) (by assumption:_=eP _ _ _ _ _ _ _ _ _ _),b1⟩|exact⟨LB (s:=p.s) (m:=p.m) g7 (by assumption) (by omega) (by assumption:_=cB _ _ _),b1⟩|exact⟨Ux (s:=p.s) (m:=p.m) g7 (by assumption) (by assumption:_=dm _ _ _ _ _ _ _),b1⟩|exact⟨Uw (s:=p.s) (m:=p.m) g7 (by assumption) (wZ hM (by assumption)) (by assumption:_=eY _ _ _),b1⟩|exact⟨LC (s:=p.s) (m:=p.m) g7 (by omega) (by omega) (by assumption:_=fK _ _ _ _∧_).1,(by assumption:_=fK _ _ _ _∧_).2⟩|exact⟨FM (s:=p.s) (m:=p.m) (by assumption) (by omega) g7 (by omega),b1⟩)|fail):g:=h
 have yq {g:Prop} (h:g:=by first|(refine cb (.mk _ _ _ _ _ _ _ _ _ _ _ _ _ (.mk ..) ..) (h:= ?_);exact wo)|(refine cb (.mk (.mk ..) p.now ..) (h:= ?_);exact wo)|fail):g:=h
 exact wz
noncomputable def mY:NN:=bY mZ Bo [(0,4),(1,20),(2,15),(3,15)]
noncomputable abbrev MK:XC:=Db
noncomputable abbrev ML:XC:=Dc
noncomputable def ft_hearq':NV (fun e0 b0 b1=>aB [e0] [] [b0,b1] 0x8926e7e91b6c3319a8a94f1f55915d439d5a7eb26c6c27ca7d54202be03951123361482819cec16cd5c02871e5029642425d29ee03908ee9445dc0523905ad849af6f5eed1108cf01be7763836834400e263600d976522c921af4a3ec5e8c0445fbbc9df7a2050f511656e79adf6642e94c23c4c5214ae07ec2d641fcaf1392a409bce7fe9a31032b829fa5c2945f22b52471392a10da656ea0c54d100eee2204e13263a146b9d2bdccf3dafa6dd49bc9ccd09250386c695aa3725b09515d8336f2dec2d02288c18daf327a36945d1af04daafb95ab7c9ef7795858ee93fb5270afd6329f6d5f18cf5ffb27e85dbc9149d597f):=⟨_,by conv=>rhs;reduce⟩
noncomputable abbrev Qz:XF:=ft_hearq'.1 (eB 118 33 cE) MK ML
theorem Eh:aK Tryz.prog 51 Qz=true:=by kernel_rfl
structure akT where
 s:Si
 v:Qi
 now:Int
 fr:Int
structure akv where
 o:List Ou
structure akR where
 s:Si
 v:Qi
 now:Int
 fr:Int
 m:Mg
structure akt where
 z:Prop
noncomputable def BA:bN:=cq (cq bT 2 (fun p:akT=>((.cons 6 (.ptr 1 0) (.cons 0 (.ptr 0 0) .nil)),(.node (.node (.node (.node .leaf (some (aE p.s.go)) .leaf) (some (eX p.s.prm p.s.aa p.s.avh p.s.av p.s.ath p.s.atl)) (.node .leaf (some (.kmap true true false Int p.v.gt am cF)) .leaf)) (some (iU p.fr)) (.node (.node .leaf (some (bu p.s.log)) .leaf) (some (aE p.s.su)) .leaf)) (some (qf p.s.N p.s.mh p.s.m 2 3 4 p.s.sa p.s.me p.s.th p.s.met 5 p.s.su.length 6 p.s.jo.length 7 p.s.go.length (p.s.wa=true) p.s.se p.s.ro p.s.tr p.s.wh p.s.was 8 p.s.be.length p.s.wc)) (.node (.node (.node .leaf (some (iy p.s.be)) .leaf) (some (.blk false 161 11 [[.int 1 (.ofNat 0),.sy (.int 3 p.s.N),.sy (.imm p.v.qh 2 Int p.s.m am),.sy (.int 4 p.v.b),.sy (.int 0 p.v.ph),.map 11,.sy (.int 4 p.v.best),.sy (.vl p.v.hh true Vl p.v.held cO),.sy (.imm p.v.qth 18 Ke p.v.qt aD),.sy (.imm p.v.cmh 2 Int p.v.cm am),.sy (.imm p.v.cth 18 Ke p.v.ct aD)]])) .leaf) (some (ce p.s.N p.s.rh p.s.m p.s.me 9 p.s.log.length p.s.ba p.s.com (p.s.sh=true) 10)) (.node (.node .leaf (some (.kmap true true false (Int×Int) p.s.hs aX aW)) .leaf) (some (aE p.s.jo)) .leaf))),12)) (fun p=>p.s.log.length≤400∧0≤p.s.ba∧p.s.ba≤(p.s.log.length:Int)∧p.s.m.length≤8) (fun p K=>aj fun r:akv=>iP (r.o.map Ou.er=cB p.s.me {aF 10 with vn:=p.s.N,vl:=p.s.m,l:=p.s.log.take p.s.ba.toNat} [p.fr]) (K 0 (.cons 8 (.sy (.prow 1 r.o.length)) .nil) (gU p.s p.s p.s p.s p.v r.o) 12) true)) 1 (fun p:akR=>((.cons 29 (.sy (.int 1 p.m.k)) (.cons 9 (.sy (.bool (p.m.N<p.s.N))) (.cons 7 (.ptr 2 0) (.cons 6 (.ptr 1 0) (.cons 1 (.sy (.int 0 p.now)) (.cons 0 (.ptr 0 0) .nil)))))),(.node (.node (.node (.node .leaf (some (aE p.s.jo)) .leaf) (some (ce p.s.N p.s.rh p.s.m p.s.me 10 p.s.log.length p.s.ba p.s.com (p.s.sh=true) 11)) (.node .leaf (some (.kmap true true false (Int×Int) p.s.hs aX aW)) .leaf)) (some (iU p.fr)) (.node (.node .leaf (some (iy p.s.be)) .leaf) (some (.blk false 161 11 [[.int 1 (.ofNat 0),.sy (.int 3 p.s.N),.sy (.imm p.v.qh 2 Int p.s.m am),.sy (.int 4 p.v.b),.sy (.int 0 p.v.ph),.map 12,.sy (.int 4 p.v.best),.sy (.vl p.v.hh true Vl p.v.held cO),.sy (.imm p.v.qth 18 Ke p.v.qt aD),.sy (.imm p.v.cmh 2 Int p.v.cm am),.sy (.imm p.v.cth 18 Ke p.v.ct aD)]])) .leaf)) (some (qf p.s.N p.s.mh p.s.m 3 4 5 p.s.sa p.s.me p.s.th p.s.met 6 p.s.su.length 7 p.s.jo.length 8 p.s.go.length (p.s.wa=true) p.s.se p.s.ro p.s.tr p.s.wh p.s.was 9 p.s.be.length p.s.wc)) (.node (.node (.node .leaf (some (aE p.s.go)) .leaf) (some (eX p.s.prm p.s.aa p.s.avh p.s.av p.s.ath p.s.atl)) (.node .leaf (some (.kmap true true false Int p.v.gt am cF)) .leaf)) (some (Ff p.m.k p.m.N p.m.fr p.m.c p.m.b p.m.acc [] p.m.vn p.m.vh p.m.vl p.m.pn p.m.pl (p.m.has=true) p.m.mh p.m.ml p.m.h p.m.l p.m.th p.m.tl)) (.node (.node .leaf (some (bu p.s.log)) .leaf) (some (aE p.s.su)) .leaf))),13)) (fun _=>True) (fun p K=>aj fun r:akt=>iP (r.z↔(p.m.k=4∨p.m.k=5∨p.m.k=9)) (K 0 (.cons 34 (.sy (.bool r.z)) (.cons 29 (.sy (.int 1 p.m.k)) (.cons 9 (.sy (.bool (p.m.N<p.s.N))) (.cons 7 (.ptr 2 0) (.cons 6 (.ptr 1 0) (.cons 1 (.sy (.int 0 p.now)) (.cons 0 (.ptr 0 0) .nil))))))) (.node (.node (.node (.node .leaf (some (aE p.s.jo)) .leaf) (some (ce p.s.N p.s.rh p.s.m p.s.me 10 p.s.log.length p.s.ba p.s.com (p.s.sh=true) 11)) (.node .leaf (some (.kmap true true false (Int×Int) p.s.hs aX aW)) .leaf)) (some (iU p.fr)) (.node (.node .leaf (some (iy p.s.be)) .leaf) (some (.blk false 161 11 [[.int 1 (.ofNat 0),.sy (.int 3 p.s.N),.sy (.imm p.v.qh 2 Int p.s.m am),.sy (.int 4 p.v.b),.sy (.int 0 p.v.ph),.map 12,.sy (.int 4 p.v.best),.sy (.vl p.v.hh true Vl p.v.held cO),.sy (.imm p.v.qth 18 Ke p.v.qt aD),.sy (.imm p.v.cmh 2 Int p.v.cm am),.sy (.imm p.v.cth 18 Ke p.v.ct aD)]])) .leaf)) (some (qf p.s.N p.s.mh p.s.m 3 4 5 p.s.sa p.s.me p.s.th p.s.met 6 p.s.su.length 7 p.s.jo.length 8 p.s.go.length (p.s.wa=true) p.s.se p.s.ro p.s.tr p.s.wh p.s.was 9 p.s.be.length p.s.wc)) (.node (.node (.node .leaf (some (aE p.s.go)) .leaf) (some (eX p.s.prm p.s.aa p.s.avh p.s.av p.s.ath p.s.atl)) (.node .leaf (some (.kmap true true false Int p.v.gt am cF)) .leaf)) (some (Ff p.m.k p.m.N p.m.fr p.m.c p.m.b p.m.acc [] p.m.vn p.m.vh p.m.vl p.m.pn p.m.pl (p.m.has=true) p.m.mh p.m.ml p.m.h p.m.l p.m.th p.m.tl)) (.node (.node .leaf (some (bu p.s.log)) .leaf) (some (aE p.s.su)) .leaf))) 13) true)
theorem afN:bj Tryz.prog 105 1 BA false 1 MK:=lP (nat:=mY) cy (fun _ _ _ _=>rfl) fun p K hpre hK=>by
 dsimp only at hpre hK ⊢
 have yp {g:Prop} (h:g:=by first|(first|omega|exact⟨fun _=>by omega,fun _=>rfl⟩)|fail):g:=h
 exact wz
theorem afP:bj Tryz.prog 105 1 BA false 2 ML:=lP (nat:=mY) cy (fun _ _ _ _=>rfl) fun p K hpre hK=>by
 dsimp only at hpre hK ⊢
 obtain⟨g1,g2,g3,g4⟩:=hpre
 have yg {g:Prop} (h:g:=by first|(refine⟨?_,?_,?_,?_⟩<;>omega)|fail):g:=h
 have yp {g:Prop} (h:g:=by first|(first|exact LA (by assumption) (by assumption:_={aF 10 with vn:=p.s.N,vl:=p.s.m,l:=p.s.log.take p.s.ba.toNat})|exact Al (by first|assumption|exact Classical.not_not.1 (by assumption)))|fail):g:=h
 have yq {g:Prop} (h:g:=by first|(refine wX [(.mk _ (.mk ..) ..)] (by first|exact sd|exact ys) ?_;exact wz)|fail):g:=h
 exact wz
structure abK where
 s:Si
 v:Qi
 now:Int
 fr:Int
 m:Mg
structure aa4 where
 s:Si
 v:Qi
 hh:Value
 o:List Ou
structure RP where
 s:Si
 hh:Value
 o:List Ou
structure RO where
 s:So
 hh:Value
 o:List Ou
theorem Bm:aA Tryz.prog 51 1 (aO (fun p:abK=>([.ptr 0 0,.sy (.int 0 p.now),eL p.fr,kB p.m.k p.m.N p.m.fr p.m.c p.m.b p.m.acc [] p.m.vn p.m.vh p.m.vl p.m.pn p.m.pl (p.m.has=true) p.m.mh p.m.ml p.m.h p.m.l p.m.th p.m.tl],(du p.s p.s p.s p.s p.v),11)) (fun p=>bz (p.s.er none)∧PQOk (p.s.er none) p.v.er∧((p.s.be.length:Int)≤p.s.se∧0<p.s.N)∧0≤p.now∧p.now≤1000000000∧cJ p.m.er∧p.m.vn<4294967295∧0≤p.fr∧p.fr<8∧p.s.N+1<4294967295) (fun p K=>ae (aj fun r:aa4=>iP (((r.s.er (some r.v.er)),r.o.map Ou.er)=bm p.now (p.s.er (some p.v.er)) p.fr p.m.er∧(r.s.be.length:Int)≤r.s.se∧0<r.s.N) (K (.sy (.imm r.hh 33 Ou r.o cE)) (du r.s r.s r.s r.s r.v) 11) true) (ae (aj fun r:RP=>iP (((r.s.er none),r.o.map Ou.er)=bm p.now (p.s.er (some p.v.er)) p.fr p.m.er∧(r.s.be.length:Int)≤r.s.se∧0<r.s.N) (K (.sy (.imm r.hh 33 Ou r.o cE)) (dv r.s r.s r.s) 9) true) (aj fun r:RO=>iP ((r.s.er,r.o.map Ou.er)=bm p.now (p.s.er (some p.v.er)) p.fr p.m.er∧(r.s.be.length:Int)≤r.s.se) (K (.sy (.imm r.hh 33 Ou r.o cE)) (di r.s) 5) true)))):=nF (nat:=mY) Eh (fun b j x h=>(cW afN (fun h=>(cW afP (fun h=>(by cases h)) h)) h)) fun p K hpre hK=>by
 dsimp only at hpre hK ⊢
 obtain⟨hK0,hKr0⟩:=ac hK
 obtain⟨hK1,hKr1⟩:=ac hKr0
 have hK2:=hKr1
 obtain⟨hs,hv,b1,n1,n2,hM,vn1,fr1,fr2,t3⟩:=hpre
 have hk:=uT hM
 have mN:=hM.2.2.1
 dsimp only[Mg.er]at hk mN
 have hr_:=hs.r
 have ba0:=hs.r.ba0
 have ba1:=hs.r.ba1
 have hl_:=hs.r.len
 have mb:=hs.r.nl.2 _ hs.r.me
 have se_:=hs.se
 dsimp only[Si.er]at hr_ ba0 ba1 hl_ mb se_
 have g3:=hs.sa0
 have g4:=hs.sa1
 have hm:=ah hs.r.nl
 have g5:=hs.r.nl
 have g6:=List.ne_nil_of_mem hs.r.me
 have g7:=hs.n0
 have g8:=hs.n1
 have g9:=ah hs.su
 have g10:=ah hs.go
 have g11:=ah hs.jo
 have g12:=hs.jo.2
 have g13:=hs.tr0
 have g14:=hs.tr1
 dsimp only[Si.er]at g3 g4 hm g5 g6 g7 g8 g9 g10 g11 g12 g13 g14
 have nnx:=trivial
 have nnr:=trivial
 have nnq:=trivial
 have ys {g:Prop} (h:g:=by first|(first|(have z:=HO hM (by assumption);have z2:=Up hM (by assumption);omega)|(have z2:=Uo hM (by assumption);omega))|fail):g:=h
 have yg {g:Prop} (h:g:=by first|(first|exact mb|omega)|(exact⟨hM,fr1,fr2⟩)|(have z:=Pg hM (by assumption);exact⟨hs,n1,n2,z.2.1,z.2.2.1,z.1,by omega,z.2.2.2,by omega,b1⟩)|(exact⟨hr_,g7,zG hM (by assumption),fr1,fr2⟩)|(first|exact⟨g7,mb⟩|omega)|(refine⟨?_,?_,?_,?_⟩<;>omega)|(first|exact⟨hs,hv,b1,n1,n2,t3,hM,by omega,by omega⟩|(exfalso;omega)|(exfalso;have z:=wZ hM (by assumption);omega))|(have z:=HO hM (by assumption);exact⟨hr_,hs.jo,z⟩)|(exact⟨hm,g10⟩)|fail):g:=h
 have yp {g:Prop} (h:g:=by first|(first|(exfalso;first|omega|(have zz:=wZ hM (by assumption);omega))|exact⟨LD (s:=p.s) (m:=p.m) (by assumption) (by assumption) (by assumption:_∧_=bM _ _ _ _ _∧_).2.1,(by assumption:_∧_=bM _ _ _ _ _∧_).2.2⟩|exact⟨LF (s:=p.s) (m:=p.m) (by assumption) (by assumption),b1⟩|exact⟨agj (s:=p.s) (m:=p.m) g7 (by assumption) (by assumption) (by assumption:_=eP _ _ _ _ _ _ _ _ _ _),b1⟩|exact⟨LB (s:=p.s) (m:=p.m) g7 (by assumption) (by omega) (by assumption:_=cB _ _ _),b1⟩|exact⟨Ux (s:=p.s) (m:=p.m) g7 (by assumption) (by assumption:_=dm _ _ _ _ _ _ _),b1⟩|exact⟨Uw (s:=p.s) (m:=p.m) g7 (by assumption) (wZ hM (by assumption)) (by assumption:_=eY _ _ _),b1⟩|exact⟨LC (s:=p.s) (m:=p.m) g7 (by omega) (by omega) (by assumption:_=fK _ _ _ _∧_).1,(by assumption:_=fK _ _ _ _∧_).2⟩|exact⟨FM (s:=p.s) (m:=p.m) (by assumption) (by omega) g7 (by omega),b1⟩)|fail):g:=h
 have ye {g:Prop} (h:g:=by first|(exact cR hK0 (.mk (.mk ..) (.mk ..) _ [] ..))|fail):g:=h
 have yq {g:Prop} (h:g:=by first|(refine cb (.mk _ _ _ _ _ _ _ _ _ _ _ _ _ (.mk ..) ..) (h:= ?_);exact wo)|(refine cb (.mk (.mk ..) (.mk ..) p.now ..) (h:= ?_);exact wo)|fail):g:=h
 exact wz
noncomputable def yk:NN:=bY mY Bm [(0,4),(1,20),(2,15),(3,15)]
noncomputable def ft_hearo':NV (fun e0=>aB [e0] [] [] 0xa04cf08698cfb948cf78d77d721e10e8b8c1399d894364779c5708e7357049370618a031729dbfa715cb5da13986240ac544db7d8f8471d9fd904fc80144e7a0c0e0d61a520b86fc8382a51cc2d1490297739f45259a69a030c5e0c4261dfcefc942862fe1a1f911eba6455ba574e35b98969dcec7307d89436d51c65de6e13fbd1d8b7ef1b3ef2738167baafed4892ab5052d331cbf3a18df363d54f99efa91f54a60e6a44b14b313f3aeb59503fb4b3e36f6368282c8c60e81ba962b87548ac4cfd369960f3e630815144c9c1a6e9939feb2bfa66b836894f580463cf3dbdfd21eda0486643034890bb655d3eef269c6241818ca1d25b7135354a0d83fc10f318507e3bb089af776b0dbd6673f0d9184e3c60fe8c5446ea2c83105cd8c0934bb15d158c4040dde0):=⟨_,by conv=>rhs;reduce⟩
noncomputable abbrev QA:XF:=ft_hearo'.1 (eB 118 33 cE)
theorem Ei:aK Tryz.prog 51 QA=true:=by kernel_rfl
structure abL where
 s:So
 now:Int
 fr:Int
 m:Mg
structure aa5 where
 s:Si
 hh:Value
 o:List Ou
structure RQ where
 s:So
 hh:Value
 o:List Ou
theorem Bn:aA Tryz.prog 51 1 (aO (fun p:abL=>([.ptr 0 0,.sy (.int 0 p.now),eL p.fr,kB p.m.k p.m.N p.m.fr p.m.c p.m.b p.m.acc [] p.m.vn p.m.vh p.m.vl p.m.pn p.m.pl (p.m.has=true) p.m.mh p.m.ml p.m.h p.m.l p.m.th p.m.tl],(di p.s),5)) (fun p=>kF p.s.er∧(p.s.be.length:Int)≤p.s.se∧0≤p.now∧p.now≤1000000000∧cJ p.m.er∧p.m.vn<4294967295∧0≤p.fr∧p.fr<8) (fun p K=>ae (aj fun r:aa5=>iP (((r.s.er none),r.o.map Ou.er)=bm p.now p.s.er p.fr p.m.er∧(r.s.be.length:Int)≤r.s.se∧0<r.s.N) (K (.sy (.imm r.hh 33 Ou r.o cE)) (dv r.s r.s r.s) 9) true) (aj fun r:RQ=>iP ((r.s.er,r.o.map Ou.er)=bm p.now p.s.er p.fr p.m.er∧(r.s.be.length:Int)≤r.s.se) (K (.sy (.imm r.hh 33 Ou r.o cE)) (di r.s) 5) true))):=nE (nat:=yk) Ei fun p K hpre hK=>by
 dsimp only at hpre hK ⊢
 obtain⟨hK0,hKr0⟩:=ac hK
 have hK1:=hKr0
 obtain⟨hs,b1,n1,n2,hM,vn1,fr1,fr2⟩:=hpre
 have hk:=uT hM
 have mN:=hM.2.2.1
 dsimp only[Mg.er]at hk mN
 have mb:=hs.me
 dsimp only[So.er]at mb
 have nnx:=trivial
 have nnr:=trivial
 have yg {g:Prop} (h:g:=by first|(first|exact mb|omega)|(exact⟨hM,fr1,fr2⟩)|(have z:=Pg hM (by assumption);exact⟨hs,n1,n2,z.2.1,z.2.2.1,z.1,by omega,z.2.2.2,by omega,b1⟩)|(exact mb)|fail):g:=h
 have yp {g:Prop} (h:g:=by first|(first|(exfalso;omega)|exact⟨agn (u:=p.s) (m:=p.m) (by assumption) (by assumption) (by assumption:_∧_=bM _ _ _ _ _∧_).2.1,(by assumption:_∧_=bM _ _ _ _ _∧_).2.2⟩|exact⟨ago (u:=p.s) (m:=p.m) (by assumption) (by assumption),b1⟩|exact⟨alE (u:=p.s) (m:=p.m) (by assumption) (by assumption) (by assumption:_=nN _ _ _ _),b1⟩|exact⟨aj6 (u:=p.s) (m:=p.m) (by assumption) (by omega),b1⟩)|fail):g:=h
 have yq {g:Prop} (h:g:=by first|(refine cb (.mk (.mk ..) _ (.mk ..) ..) (h:= ?_);exact wo)|fail):g:=h
 exact wz
noncomputable def mX:NN:=bY yk Bn [(0,4),(1,20),(2,15),(3,15)]
def lI (me:Int) (m go:List Int):List (Int×Mx):=if me∈go then cB me {aF 12 with pn:=me,pl:=1} m else []
def pP (N:Int) (m:List Int) (me:Int) (log:List Ke) (com:Int) (hs:List (Int×Int)):List (Int×Mx):=if m.head?=some me then (m.drop 1).map (jj N m me log com hs) else []
def pG (s:St):List (Int×Mx):=lI s.me s.m s.go++pP s.N s.m s.me s.log s.com s.hs
instance alK (now:Int) (s:St):Decidable (gq now s):=inferInstanceAs (Decidable (s.sh=true∧s.sa≤now∧12+6*(s.m.idxOf s.me:Int)≤now - s.sa))
instance alL (s:St):Decidable (vp s):=inferInstanceAs (Decidable ((s.m.find? fun p=>decide (¬(p∈s.su∨p∈s.go)))=some s.me))
instance ak4 (now:Int) (s:St):Decidable (fp now s):=inferInstanceAs (Decidable (s.tr≤now∧(gq now s∨(¬bK s.m s.su s.jo s.go=s.m∧vp s))))
def bZ (now:Int) (s:St):St×List (Int×Mx):=
 if ¬0<s.N then (s,if s.wa=true then cB s.me {aF 11 with pn:=s.me,pl:=1} s.met else []) else
 match s.q with
 |some v=>(s,pG s++eu s.N s.me s.m v)
 |none=>if fp now s then ((ei now s).1,pG s++(ei now s).2) else (s,pG s)
section
variable {now:Int} {s:Si} {u:So} {o o1 o2:List Ou}
theorem ajl (hN:0<s.N) (ho:o.map Ou.er=pG (s.er none)) (h:¬fp now (s.er none)):(s.er none,o.map Ou.er)=bZ now (s.er none):=by
 unfold bZ
 rw[if_neg (show¬¬0<(s.er none).N from fun g=>g hN)]
 show _=if fp now (s.er none) then _ else _
 rw[if_neg h,ho]
theorem ad2 (hN:0<s.N) (ho:o1.map Ou.er=pG (s.er none)) (h:fp now (s.er none)) {x:St} (hb:(x,o2.map Ou.er)=ei now (s.er none)) (e:o=o1++o2):(x,o.map Ou.er)=bZ now (s.er none):=by
 unfold bZ
 rw[if_neg (show¬¬0<(s.er none).N from fun g=>g hN)]
 show _=if fp now (s.er none) then _ else _
 rw[if_pos h,←hb,e,amg,ho]
theorem ak6 (hN:0<s.N) {v:Pq} (ho:o1.map Ou.er=pG (s.er none)) (ha:o2.map Ou.er=eu s.N s.me s.m v) (e:o=o1++o2):(s.er (some v),o.map Ou.er)=bZ now (s.er (some v)):=by
 unfold bZ
 rw[if_neg (show¬¬0<(s.er (some v)).N from fun g=>g hN)]
 show _=(_,pG (s.er none)++eu s.N s.me s.m v)
 rw[e,amg,ho,ha]
theorem ad1 (h:¬u.wa=true):(u.er,([]:List Ou).map Ou.er)=bZ now u.er:=by
 unfold bZ
 rw[if_pos (show¬0<u.er.N from by show¬(0:Int)<0;decide),if_neg (show¬u.er.wa=true from h)];rfl
theorem VR (h:u.wa=true) {z:Mg} (hz:z.er={aF 11 with pn:=u.me,pl:=1}) (ho:o.map Ou.er=cB u.me z.er u.met):(u.er,o.map Ou.er)=bZ now u.er:=by
 unfold bZ
 rw[if_pos (show¬0<u.er.N from by show¬(0:Int)<0;decide),if_pos (show u.er.wa=true from h),ho,hz];rfl
theorem JK {me:Int} {m go:List Int} {z:Mg} (h:me∈go) (hz:z.er={aF 12 with pn:=me,pl:=1}) (ho:o.map Ou.er=cB me z.er m):o.map Ou.er=lI me m go∧o.length≤m.length:=by
 have hl:=pN ho
 unfold lI
 rw[if_pos h,ho,hz]
 exact⟨rfl,hl⟩
theorem TN {me:Int} {m go:List Int} (h:¬me∈go):([]:List Ou).map Ou.er=lI me m go∧([]:List Ou).length≤m.length:=by
 unfold lI
 rw[if_neg h]
 exact⟨rfl,Nat.zero_le _⟩
theorem JJ {N me com:Int} {m:List Int} {log:List Ke} {hs:List (Int×Int)} (h:m.head?=some me) (h2:o2.map Ou.er=(m.drop 1).map (jj N m me log com hs)) (e:o=o1++o2):o.map Ou.er=o1.map Ou.er++pP N m me log com hs∧o.length≤o1.length+m.length:=by
 have hl:=od h2
 rw[amr]at hl
 unfold pP
 rw[if_pos h,e,amg,h2,al2]
 exact⟨rfl,by omega⟩
theorem TL {N me com:Int} {m:List Int} {log:List Ke} {hs:List (Int×Int)} (h:¬m.head?=some me):o1.map Ou.er=o1.map Ou.er++pP N m me log com hs∧o1.length≤o1.length+m.length:=by
 unfold pP
 rw[if_neg h,List.append_nil]
 exact⟨rfl,by omega⟩
theorem aah (hs:bz (s.er none)) (ha:rb (s.er none)) (hn:0≤now∧now≤1000000000):(ei now (s.er none)).2.length≤24:=by
 have r0:=hs.ro0
 have r1:=hs.ro1
 have mb:=hs.r.nl.2 _ hs.r.me
 unfold ei
 split
 ·exact Nat.zero_le _
 ·rename_i hr
  have h1:bz (({s with ro:=s.ro+1,tr:=now+10}:Si).er none):=JN hs (by dsimp only[Si.er]at r0 r1 hr;omega)
  have hv:PQOk (({s with ro:=s.ro+1,tr:=now+10}:Si).er none) ⟨(s.ro+1)*256+s.me,0,[],0,none,[],([],[])⟩:=tb (s:=({s with ro:=s.ro+1,tr:=now+10}:Si).er none) hs.r ha (by dsimp only[Si.er]at r0 r1 hr mb;omega)
  have hb:=Jj h1 hv hn
  have l1:=uA (now:=now) hb.1 hb.2
  have l2:=ah hb.1.r.nl
  dsimp only
  rw[al2]
  exact Nat.le_trans (Nat.add_le_add (mE) l1) (by dsimp only[Si.er]at l2 ⊢;omega)
theorem pu {x:St} (hs:bz (s.er none)) (ha:rb (s.er none)) (n1:0≤now) (n2:now≤1000000000) (h:(x,o.map Ou.er)=ei now (s.er none)):o.length≤24:=by
 have e:=congrArg (fun z=>z.2.length) h
 dsimp only at e
 rw[al4]at e
 rw[e];exact aah hs ha ⟨n1,n2⟩
end
noncomputable def bd_tan':NV (fun e0 e1 e2=>df [e0,e1,e2] [] [] 0x1285a57064f2d4386fa80880c3ac557ff23fbf511aef7268154b4dcd8f642e62889e5acd548212c3d881424ec79da593fd573cb5e0b725683d6db8179861ac9):=⟨_,by conv=>rhs;reduce⟩
noncomputable abbrev CP:XC:=bd_tan'.1 (eC 52 2 am) (eC 68 18 aD) (eB 118 33 cE)
noncomputable def bd_tbn':NV (df [] [] [] 0x3206b8fe1f6a097a3561bc712f640a20dbebefb42eb1566d33e3bbfea1f66b0266fe0272d7880b):=⟨_,by conv=>rhs;reduce⟩
noncomputable abbrev CO:XC:=bd_tbn'.1
noncomputable def ft_tickn':NV (fun e0 e1 e2 b0 b1=>aB [e0,e1,e2] [] [b0,b1] 0xd8812834cf46f3e80667676f8328d1182422ebfe056fa90a9d9326cf44e6a4bc7d2e725b39330e4f11373cf53a3db8ccabcfbb1ad0862ac19fcb2d3f5d6a3a26811ab55677e41515c4db1cd1628d380f609078462f069d2d9669dfef8153868afc3b2bf144be57a74ff13a8e2346ed0f7afb068b1fa265e2f211a5ed3836ff0c718fd7e40f812fc67b3e2827f953d50ebb3deefc7f9abf12efaf183874dfcf4d736e47dfab2):=⟨_,by conv=>rhs;reduce⟩
noncomputable abbrev Qf:XF:=ft_tickn'.1 (eC 52 2 am) (eC 68 18 aD) (eB 118 33 cE) CP CO
theorem DP:aK Tryz.prog 50 Qf=true:=by kernel_rfl
structure akH where
 s:Si
 now:Int
 o:List Ou
structure akl where
 o:List Ou
structure akJ where
 s:Si
 now:Int
structure akn where
 o:List Ou
noncomputable def By:bN:=cq (cq bT 2 (fun p:akH=>((.cons 6 (.sy (.prow 1 p.o.length)) (.cons 1 (.sy (.int 0 p.now)) (.cons 0 (.ptr 0 0) .nil))),(fQ p.s p.s p.s p.o),10)) (fun p=>ROk p.s.m p.s.me p.s.log p.s.ba p.s.com p.s.hs∧0<p.s.N∧p.s.N<4294967296∧p.o.length≤8) (fun p K=>aj fun r:akl=>iP (r.o.map Ou.er=p.o.map Ou.er++pP p.s.N p.s.m p.s.me p.s.log p.s.com p.s.hs∧r.o.length≤p.o.length+p.s.m.length) (K 0 (.cons 6 (.sy (.prow 1 r.o.length)) (.cons 1 (.sy (.int 0 p.now)) (.cons 0 (.ptr 0 0) .nil))) (fQ p.s p.s p.s r.o) 10) true)) 1 (fun p:akJ=>((.cons 6 .nilS (.cons 5 (.ptr 1 0) (.cons 1 (.sy (.int 0 p.now)) (.cons 0 (.ptr 0 0) .nil)))),(.node (.node (.node (.node .leaf (some (iy p.s.be)) .leaf) (some (eX p.s.prm p.s.aa p.s.avh p.s.av p.s.ath p.s.atl)) .leaf) (some (o_r [] p.s.me)) (.node (.node .leaf (some (.kmap true true false (Int×Int) p.s.hs aX aW)) .leaf) (some (aE p.s.jo)) .leaf)) (some (Fe p.s.N p.s.mh p.s.m 2 3 p.s.sa p.s.me p.s.th p.s.met 4 p.s.su.length 5 p.s.jo.length 6 p.s.go.length (p.s.wa=true) p.s.se p.s.ro p.s.tr p.s.wh p.s.was 7 p.s.be.length p.s.wc)) (.node (.node (.node .leaf (some (bu p.s.log)) .leaf) (some (aE p.s.su)) .leaf) (some (ce p.s.N p.s.rh p.s.m p.s.me 8 p.s.log.length p.s.ba p.s.com (p.s.sh=true) 9)) (.node .leaf (some (aE p.s.go)) .leaf))),10)) (fun p=>p.s.m.length≤8∧p.s.go.length≤8) (fun p K=>aj fun r:akn=>iP (r.o.map Ou.er=lI p.s.me p.s.m p.s.go∧r.o.length≤p.s.m.length) (K 0 (.cons 6 (.sy (.prow 1 r.o.length)) (.cons 1 (.sy (.int 0 p.now)) (.cons 0 (.ptr 0 0) .nil))) (fQ p.s p.s p.s r.o) 10) true)
theorem afJ:bj Tryz.prog 95 1 By false 1 CP:=lP (nat:=mX) cy (fun _ _ _ _=>rfl) fun p K hpre hK=>by
 dsimp only at hpre hK ⊢
 obtain⟨G1,G2⟩:=hpre
 have nnr:=trivial
 have nnq:=trivial
 have yp {g:Prop} (h:g:=by first|(first|exact JK (by assumption) rfl (by assumption:_=cB _ _ _∧_).1|exact TN (by assumption))|fail):g:=h
 have yq {g:Prop} (h:g:=by first|(refine cb (.mk _ _ (.mk _ _ _ _ _ _ _ _ [] _ _ _ _ [] _ [] _ [] ..) ..) (h:= ?_);exact wo)|fail):g:=h
 exact wz
theorem afH:bj Tryz.prog 95 1 By false 2 CO:=lP (nat:=mX) cy (fun _ _ _ _=>rfl) fun p K hpre hK=>by
 dsimp only at hpre hK ⊢
 obtain⟨hr_,g7,g8,G1⟩:=hpre
 have hm:=ah hr_.nl
 have hne:=List.length_pos_iff.2 (List.ne_nil_of_mem hr_.me)
 have nnl:=trivial
 have ys {g:Prop} (h:g:=by first|(have l4_:=od (by assumption:_=List.map (jj _ _ _ _ _ _) _);rw[amr]at l4_;simp[bR];omega;done)|fail):g:=h
 have yg {g:Prop} (h:g:=by first|(exact⟨hr_,by omega,by omega⟩)|fail):g:=h
 have yp {g:Prop} (h:g:=by first|(first|(exfalso;omega)|exact JJ ((fU (by assumption)).1 (by first|assumption|exact(by assumption:_=_).symm)) (by assumption:_=List.map (jj _ _ _ _ _ _) _) (by first|rfl|exact ju (by assumption))|exact TL (fun g=>absurd ((fU (by assumption)).2 g) (by first|assumption|exact fun e=>absurd e.symm (by assumption))))|fail):g:=h
 have yz {g:Prop} (h:g:=by first|(have l4_:=od (by assumption:_=List.map (jj _ _ _ _ _ _) _);rw[amr]at l4_;simp[bR];omega;done)|fail):g:=h
 have yq {g:Prop} (h:g:=by first|(refine wX _ (by first|exact sd|exact ys) ?_;exact wz)|fail):g:=h
 exact wz
structure abr where
 s:Si
 now:Int
structure aaF where
 s:Si
 v:Qi
 hh:Value
 o:List Ou
structure Ry where
 s:Si
 hh:Value
 o:List Ou
structure Rx where
 s:So
 hh:Value
 o:List Ou
theorem Bl:aA Tryz.prog 50 1 (aO (fun p:abr=>([.ptr 0 0,.sy (.int 0 p.now)],(dv p.s p.s p.s),9)) (fun p=>bz (p.s.er none)∧rb (p.s.er none)∧((p.s.be.length:Int)≤p.s.se∧0<p.s.N)∧0≤p.now∧p.now≤1000000000∧p.s.N+1<4294967295) (fun p K=>ae (aj fun r:aaF=>iP (((r.s.er (some r.v.er)),r.o.map Ou.er)=bZ p.now (p.s.er none)∧(r.s.be.length:Int)≤r.s.se∧0<r.s.N) (K (.sy (.imm r.hh 33 Ou r.o cE)) (du r.s r.s r.s r.s r.v) 11) true) (ae (aj fun r:Ry=>iP (((r.s.er none),r.o.map Ou.er)=bZ p.now (p.s.er none)∧(r.s.be.length:Int)≤r.s.se∧0<r.s.N) (K (.sy (.imm r.hh 33 Ou r.o cE)) (dv r.s r.s r.s) 9) true) (aj fun r:Rx=>iP ((r.s.er,r.o.map Ou.er)=bZ p.now (p.s.er none)∧(r.s.be.length:Int)≤r.s.se) (K (.sy (.imm r.hh 33 Ou r.o cE)) (di r.s) 5) true)))):=nF (nat:=mX) DP (fun b j x h=>(cW afJ (fun h=>(cW afH (fun h=>(by cases h)) h)) h)) fun p K hpre hK=>by
 dsimp only at hpre hK ⊢
 obtain⟨hK0,hKr0⟩:=ac hK
 obtain⟨hK1,hKr1⟩:=ac hKr0
 have hK2:=hKr1
 obtain⟨hs,hv,b1,n1,n2,t3⟩:=hpre
 have hr_:=hs.r
 have mb:=hs.r.nl.2 _ hs.r.me
 dsimp only[Si.er]at hr_ mb
 have g3:=hs.sa0
 have g4:=hs.sa1
 have hm:=ah hs.r.nl
 have g5:=hs.r.nl
 have g6:=List.ne_nil_of_mem hs.r.me
 have g7:=hs.n0
 have g8:=hs.n1
 have g9:=ah hs.su
 have g10:=ah hs.go
 have g11:=ah hs.jo
 have g12:=hs.jo.2
 have g13:=hs.tr0
 have g14:=hs.tr1
 dsimp only[Si.er]at g3 g4 hm g5 g6 g7 g8 g9 g10 g11 g12 g13 g14
 have nnx:=trivial
 have nnr:=trivial
 have nnq:=trivial
 have nnl:=trivial
 have ys {g:Prop} (h:g:=by first|(have l2_:=ah g5;(try have l1_:=lB (by assumption:_=eu _ _ _ _));(try have l3_:=pu hs hv n1 n2 (by assumption:_=ei _ _∧_).1);simp[bR];omega;done)|fail):g:=h
 have yg {g:Prop} (h:g:=by first|(first|exact mb|omega)|(first|exact⟨g7,mb⟩|omega)|(exact⟨hm,g10⟩)|(exact⟨hr_,g7,by omega,by(have e:=(by assumption:_=lI _ _ _∧_).2;omega)⟩)|(exact⟨hs,n1,n2⟩)|(exact⟨hs,hv,b1,n1,n2,t3⟩)|fail):g:=h
 have yp {g:Prop} (h:g:=by first|(first|exact⟨ajl (s:=p.s) g7 hb1 (by assumption),b1⟩|exact⟨ad2 (s:=p.s) g7 hb1 (by assumption) (by assumption:_=ei _ _∧_).1 (by first|rfl|exact ju (by assumption)),(by assumption:_=ei _ _∧_).2⟩)|fail):g:=h
 have yz {g:Prop} (h:g:=by first|(have l2_:=ah g5;(try have l1_:=lB (by assumption:_=eu _ _ _ _));(try have l3_:=pu hs hv n1 n2 (by assumption:_=ei _ _∧_).1);simp[bR];omega;done)|fail):g:=h
 have yn {g:Prop} (h:g:=by first|(obtain⟨hb0,hb2⟩:=hi;have ha_:=(by assumption:_=lI _ _ _∧_);have hb1:=hb0;rw[ha_.1]at hb1;have hb3:=ha_.2;exact wz)|fail):g:=h
 have yq {g:Prop} (h:g:=by first|(refine cb (.mk _ (.mk p.s.N p.s.mh p.s.m p.s.rh p.s.log p.s.ba p.s.com p.s.sh p.s.hs p.s.prm p.s.aa p.s.avh p.s.av p.s.ath p.s.atl p.s.sa p.s.me p.s.th p.s.met p.s.su p.s.jo p.s.go p.s.wa p.s.se p.s.ro p.s.tr p.s.wh p.s.was p.s.be p.s.wc ..) ..) (h:= ?_);exact wo)|(refine wX _ (by first|exact sd|exact ys) ?_;exact wz)|fail):g:=h
 exact wz
noncomputable def mT:NN:=bY mX Bl [(0,4),(1,20)]
noncomputable abbrev MF:XC:=CP
noncomputable abbrev ME:XC:=CO
noncomputable def ft_tickq':NV (fun e0 e1 e2 b0 b1=>aB [e0,e1,e2] [] [b0,b1] 0xd8812834cf46f3e80667676f8328d1182422ebfe056fa90a9d9326cf44e6a4bc7d2e725b39330e4f11373cf53a3db8ccabcfbb1ad0862ac19fcb2d3f5d6a3a26811ab55677e41515c4db1cd1628d380f609078462f069d2d9669dfef8153868afc3b2bf144be57a74ff13a8e2346ed0f7afb068b1fa265e2f211a5ed3836ff0c718fd7e40f812fc67b3e2827f953d50ebb3deefc7f9abf12efaf183874dfcf4d736e47dfab2):=⟨_,by conv=>rhs;reduce⟩
noncomputable abbrev Qd:XF:=ft_tickq'.1 (eC 52 2 am) (eC 68 18 aD) (eB 118 33 cE) MF ME
theorem DN:aK Tryz.prog 50 Qd=true:=by kernel_rfl
structure akG where
 s:Si
 v:Qi
 now:Int
 o:List Ou
structure akk where
 o:List Ou
structure akI where
 s:Si
 v:Qi
 now:Int
structure akm where
 o:List Ou
noncomputable def Bw:bN:=cq (cq bT 2 (fun p:akG=>((.cons 6 (.sy (.prow 1 p.o.length)) (.cons 1 (.sy (.int 0 p.now)) (.cons 0 (.ptr 0 0) .nil))),(gU p.s p.s p.s p.s p.v p.o),12)) (fun p=>ROk p.s.m p.s.me p.s.log p.s.ba p.s.com p.s.hs∧0<p.s.N∧p.s.N<4294967296∧p.o.length≤8) (fun p K=>aj fun r:akk=>iP (r.o.map Ou.er=p.o.map Ou.er++pP p.s.N p.s.m p.s.me p.s.log p.s.com p.s.hs∧r.o.length≤p.o.length+p.s.m.length) (K 0 (.cons 6 (.sy (.prow 1 r.o.length)) (.cons 1 (.sy (.int 0 p.now)) (.cons 0 (.ptr 0 0) .nil))) (gU p.s p.s p.s p.s p.v r.o) 12) true)) 1 (fun p:akI=>((.cons 6 .nilS (.cons 5 (.ptr 1 0) (.cons 1 (.sy (.int 0 p.now)) (.cons 0 (.ptr 0 0) .nil)))),(.node (.node (.node (.node .leaf (some (aE p.s.go)) .leaf) (some (eX p.s.prm p.s.aa p.s.avh p.s.av p.s.ath p.s.atl)) (.node .leaf (some (.kmap true true false Int p.v.gt am cF)) .leaf)) (some (o_r [] p.s.me)) (.node (.node .leaf (some (bu p.s.log)) .leaf) (some (aE p.s.su)) .leaf)) (some (qf p.s.N p.s.mh p.s.m 2 3 4 p.s.sa p.s.me p.s.th p.s.met 5 p.s.su.length 6 p.s.jo.length 7 p.s.go.length (p.s.wa=true) p.s.se p.s.ro p.s.tr p.s.wh p.s.was 8 p.s.be.length p.s.wc)) (.node (.node (.node .leaf (some (iy p.s.be)) .leaf) (some (.blk false 161 11 [[.int 1 (.ofNat 0),.sy (.int 3 p.s.N),.sy (.imm p.v.qh 2 Int p.s.m am),.sy (.int 4 p.v.b),.sy (.int 0 p.v.ph),.map 11,.sy (.int 4 p.v.best),.sy (.vl p.v.hh true Vl p.v.held cO),.sy (.imm p.v.qth 18 Ke p.v.qt aD),.sy (.imm p.v.cmh 2 Int p.v.cm am),.sy (.imm p.v.cth 18 Ke p.v.ct aD)]])) .leaf) (some (ce p.s.N p.s.rh p.s.m p.s.me 9 p.s.log.length p.s.ba p.s.com (p.s.sh=true) 10)) (.node (.node .leaf (some (.kmap true true false (Int×Int) p.s.hs aX aW)) .leaf) (some (aE p.s.jo)) .leaf))),12)) (fun p=>p.s.m.length≤8∧p.s.go.length≤8) (fun p K=>aj fun r:akm=>iP (r.o.map Ou.er=lI p.s.me p.s.m p.s.go∧r.o.length≤p.s.m.length) (K 0 (.cons 6 (.sy (.prow 1 r.o.length)) (.cons 1 (.sy (.int 0 p.now)) (.cons 0 (.ptr 0 0) .nil))) (gU p.s p.s p.s p.s p.v r.o) 12) true)
theorem afI:bj Tryz.prog 95 1 Bw false 1 MF:=lP (nat:=mT) cy (fun _ _ _ _=>rfl) fun p K hpre hK=>by
 dsimp only at hpre hK ⊢
 obtain⟨G1,G2⟩:=hpre
 have nnr:=trivial
 have nnq:=trivial
 have yp {g:Prop} (h:g:=by first|(first|exact JK (by assumption) rfl (by assumption:_=cB _ _ _∧_).1|exact TN (by assumption))|fail):g:=h
 have yq {g:Prop} (h:g:=by first|(refine cb (.mk _ _ (.mk _ _ _ _ _ _ _ _ [] _ _ _ _ [] _ [] _ [] ..) ..) (h:= ?_);exact wo)|fail):g:=h
 exact wz
theorem afG:bj Tryz.prog 95 1 Bw false 2 ME:=lP (nat:=mT) cy (fun _ _ _ _=>rfl) fun p K hpre hK=>by
 dsimp only at hpre hK ⊢
 obtain⟨hr_,g7,g8,G1⟩:=hpre
 have hm:=ah hr_.nl
 have hne:=List.length_pos_iff.2 (List.ne_nil_of_mem hr_.me)
 have nnl:=trivial
 have ys {g:Prop} (h:g:=by first|(have l4_:=od (by assumption:_=List.map (jj _ _ _ _ _ _) _);rw[amr]at l4_;simp[bR];omega;done)|fail):g:=h
 have yg {g:Prop} (h:g:=by first|(exact⟨hr_,by omega,by omega⟩)|fail):g:=h
 have yp {g:Prop} (h:g:=by first|(first|(exfalso;omega)|exact JJ ((fU (by assumption)).1 (by first|assumption|exact(by assumption:_=_).symm)) (by assumption:_=List.map (jj _ _ _ _ _ _) _) (by first|rfl|exact ju (by assumption))|exact TL (fun g=>absurd ((fU (by assumption)).2 g) (by first|assumption|exact fun e=>absurd e.symm (by assumption))))|fail):g:=h
 have yz {g:Prop} (h:g:=by first|(have l4_:=od (by assumption:_=List.map (jj _ _ _ _ _ _) _);rw[amr]at l4_;simp[bR];omega;done)|fail):g:=h
 have yq {g:Prop} (h:g:=by first|(refine wX _ (by first|exact sd|exact ys) ?_;exact wz)|fail):g:=h
 exact wz
structure abp where
 s:Si
 v:Qi
 now:Int
structure aaD where
 s:Si
 v:Qi
 hh:Value
 o:List Ou
theorem Bj:aA Tryz.prog 50 1 (aO (fun p:abp=>([.ptr 0 0,.sy (.int 0 p.now)],(du p.s p.s p.s p.s p.v),11)) (fun p=>bz (p.s.er none)∧PQOk (p.s.er none) p.v.er∧((p.s.be.length:Int)≤p.s.se∧0<p.s.N)∧0≤p.now∧p.now≤1000000000∧p.s.N+1<4294967295) (fun p K=>aj fun r:aaD=>iP (((r.s.er (some r.v.er)),r.o.map Ou.er)=bZ p.now (p.s.er (some p.v.er))∧(r.s.be.length:Int)≤r.s.se∧0<r.s.N) (K (.sy (.imm r.hh 33 Ou r.o cE)) (du r.s r.s r.s r.s r.v) 11) true)):=nF (nat:=mT) DN (fun b j x h=>(cW afI (fun h=>(cW afG (fun h=>(by cases h)) h)) h)) fun p K hpre hK=>by
 dsimp only at hpre hK ⊢
 obtain⟨hs,hv,b1,n1,n2,t3⟩:=hpre
 have hq:=PQOk.qok hs hv
 have qc:=hq.cm
 have qt:=hq.ct
 have hr_:=hs.r
 have mb:=hs.r.nl.2 _ hs.r.me
 dsimp only[Si.er]at hr_ mb
 have g3:=hs.sa0
 have g4:=hs.sa1
 have hm:=ah hs.r.nl
 have g5:=hs.r.nl
 have g6:=List.ne_nil_of_mem hs.r.me
 have g7:=hs.n0
 have g8:=hs.n1
 have g9:=ah hs.su
 have g10:=ah hs.go
 have g11:=ah hs.jo
 have g12:=hs.jo.2
 have g13:=hs.tr0
 have g14:=hs.tr1
 dsimp only[Si.er]at g3 g4 hm g5 g6 g7 g8 g9 g10 g11 g12 g13 g14
 have nnx:=trivial
 have nnr:=trivial
 have nnl:=trivial
 have ys {g:Prop} (h:g:=by first|(have l2_:=ah g5;(try have l1_:=lB (by assumption:_=eu _ _ _ _));(try have l3_:=pu hs hv n1 n2 (by assumption:_=ei _ _∧_).1);simp[bR];omega;done)|fail):g:=h
 have yg {g:Prop} (h:g:=by first|(first|exact mb|omega)|(first|exact⟨g7,mb⟩|omega)|(exact⟨hm,g10⟩)|(exact⟨hr_,g7,by omega,by(have e:=(by assumption:_=lI _ _ _∧_).2;omega)⟩)|(exact⟨hm,by omega,by omega⟩)|fail):g:=h
 have yp {g:Prop} (h:g:=by first|(first|exact⟨ak6 (s:=p.s) g7 hb1 (by assumption:_=eu _ _ _ _) (by first|rfl|exact ju (by assumption)),b1⟩)|fail):g:=h
 have yz {g:Prop} (h:g:=by first|(have l2_:=ah g5;(try have l1_:=lB (by assumption:_=eu _ _ _ _));(try have l3_:=pu hs hv n1 n2 (by assumption:_=ei _ _∧_).1);simp[bR];omega;done)|fail):g:=h
 have yn {g:Prop} (h:g:=by first|(obtain⟨hb0,hb2⟩:=hi;have ha_:=(by assumption:_=lI _ _ _∧_);have hb1:=hb0;rw[ha_.1]at hb1;have hb3:=ha_.2;exact wz)|fail):g:=h
 have yq {g:Prop} (h:g:=by first|(refine cb (.mk _ _ _ _ (.mk _ _ _ p.v.best p.v.hh p.v.held ..) ..) (h:= ?_);exact wo)|(refine wX _ (by first|exact sd|exact ys) ?_;exact wz)|fail):g:=h
 exact wz
noncomputable def xT:NN:=bY mT Bj [(0,4),(1,20)]
noncomputable def ft_ticko':NV (fun e0 e1 e2=>aB [e0,e1,e2] [] [] 0x37013e26e280977b6d29025067096c7b212eca0e947304533fd788ebc89d83dffda98f785a5cdccb1ebfd50481c0b2cf511443c5cb7b76bc9e27f14f5d74db8cb65b1de6175052395ce98dd22221ade96c045fe2640a36e280291ff5edbdb12e99fcbbeb058c40393381dfedd18416ad9edd24e5e1bdfa30b8739dc5caa11113df3d0d424b85937e5e019d80d003fc76d6b710a394dacf3f264372d749e000ac2244225f102b59aaa47c2f67beab3c67e3e60352d2ecc57737fe7071f67375b5800cdfc173567a748dc899ddda93c283cd4575ffdddd408781fde8210d81cce2f5e9648e8563dd93226a070f22335830daf2b4dbef0403fed):=⟨_,by conv=>rhs;reduce⟩
noncomputable abbrev Qe:XF:=ft_ticko'.1 (eC 52 2 am) (eC 68 18 aD) (eB 118 33 cE)
theorem DO:aK Tryz.prog 50 Qe=true:=by kernel_rfl
structure abq where
 s:So
 now:Int
structure aaE where
 s:So
 hh:Value
 o:List Ou
theorem Bk:aA Tryz.prog 50 1 (aO (fun p:abq=>([.ptr 0 0,.sy (.int 0 p.now)],(di p.s),5)) (fun p=>kF p.s.er∧(p.s.be.length:Int)≤p.s.se∧0≤p.now∧p.now≤1000000000) (fun p K=>aj fun r:aaE=>iP ((r.s.er,r.o.map Ou.er)=bZ p.now p.s.er∧(r.s.be.length:Int)≤r.s.se) (K (.sy (.imm r.hh 33 Ou r.o cE)) (di r.s) 5) true)):=nE (nat:=xT) DO fun p K hpre hK=>by
 dsimp only at hpre hK ⊢
 obtain⟨hs,b1,n1,n2⟩:=hpre
 have mb:=hs.me
 have tl_:=ah hs.met
 dsimp only[So.er]at mb tl_
 have nnx:=trivial
 have nnr:=trivial
 have yg {g:Prop} (h:g:=by first|(first|exact mb|omega)|(exact mb)|fail):g:=h
 have yp {g:Prop} (h:g:=by first|(first|exact⟨ad1 (u:=p.s) (by assumption),b1⟩|exact⟨VR (u:=p.s) (by first|assumption|exact Classical.not_not.1 (by assumption)) rfl (by assumption:_=cB _ _ _∧_).1,b1⟩)|fail):g:=h
 have yq {g:Prop} (h:g:=by first|(refine cb (.mk _ _ (.mk _ _ _ _ _ _ _ _ [] _ _ _ _ [] _ [] _ [] ..) ..) (h:= ?_);exact wo)|fail):g:=h
 exact wz
noncomputable def br:NN:=bY xT Bk [(0,4),(1,20)]
end Go.Proofs.Tryz
