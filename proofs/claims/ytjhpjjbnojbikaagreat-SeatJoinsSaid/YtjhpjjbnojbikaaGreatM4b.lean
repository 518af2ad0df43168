/- Definitions and lemmas of the proof, without a condition of their own. -/
import Derived.Test.YtjhpjjbnojbikaaGreatM4a
import Derived.KernelRfl
set_option linter.unusedSimpArgs false
set_option linter.unusedVariables false
open List renaming eq_nil_of_length_eq_zero→akG,length_append→akk,length_cons→akl,length_drop→akJ,length_map→akm,length_nil→akn,length_take→akA,map_append→aky
open Nat renaming le_refl→akB
open Option.some renaming inj→akH
namespace Go.Proofs.Tryz
open Go Go.RowKit Go.Sy
open Go.Eng hiding aj
set_option maxRecDepth 1000000
set_option linter.unusedVariables false
set_option maxHeartbeats 4000000
attribute [local irreducible] aq
noncomputable def ur:NN:=iD uA JG [(0,4),(1,20)] [4,5,7,10,11,12,13,14,15,16,17,18,19,20]
noncomputable def ft_shouldG':NV (aA [] [] [] 0x9f0e052543abd9fc84cf1f9a21a7aa4ec777f727c6037d2a7e4ffe809568499fa2f91c514be3055dab8aaa754d4bbb90eab103e88d43c37b73f):=⟨_,by conv=>rhs;reduce⟩
noncomputable abbrev HO:XF:=ft_shouldG'.1
theorem yZ:aK Tryz.prog 72 HO=true:=by kernel_rfl
structure MA where
 q:Nat→Value
 s:Si
 now:Int
structure Mc where
 z:Prop
theorem Hd:aB Tryz.prog 72 7 (aO (fun p:MA=>([.ptr 0 0,.sy (.int 0 p.now)],(.node (.node (.node .leaf (some (aD p.s.jo)) .leaf) (some (bZ p.s.N p.s.rh p.s.m p.s.me 5 p.s.log.length p.s.ba p.s.com (p.s.sh=true) 6)) (.node .leaf (some (bu p.s.log)) .leaf)) (some (o_t p.s.N p.s.mh p.s.m p.q p.s.sa p.s.me p.s.su.length p.s.jo.length p.s.go.length p.s.tr)) (.node (.node .leaf (some (aD p.s.go)) .leaf) (some (aD p.s.su)) (.node .leaf (some (.kmap true true false (Int×Int) p.s.hs aY aX)) .leaf))),7)) (fun p=>bA (p.s.er none)∧0≤p.now∧p.now≤1000000000) (fun p K=>aj fun r:Mc=>iP (r.z↔eY p.now (p.s.er none)) (K (.sy (.bool r.z)) (.node (.node (.node .leaf (some (aD p.s.jo)) .leaf) (some (bZ p.s.N p.s.rh p.s.m p.s.me 5 p.s.log.length p.s.ba p.s.com (p.s.sh=true) 6)) (.node .leaf (some (bu p.s.log)) .leaf)) (some (o_t p.s.N p.s.mh p.s.m p.q p.s.sa p.s.me p.s.su.length p.s.jo.length p.s.go.length p.s.tr)) (.node (.node .leaf (some (aD p.s.go)) .leaf) (some (aD p.s.su)) (.node .leaf (some (.kmap true true false (Int×Int) p.s.hs aY aX)) .leaf))) 7) true)):=nE (nat:=ur) yZ fun p K hpre hK=>by
 dsimp only at hpre hK ⊢
 obtain⟨hs,g1,g2⟩:=hpre
 have g3:=hs.sa0
 have g4:=hs.sa1
 have hm:=ah hs.r.nl
 have g5:=hs.r.nl
 have g6:=List.ne_nil_of_mem hs.r.me
 have g7:=hs.n0
 have g8:=hs.n1
 have g9:=ah hs.su
 have g10:=ah hs.go
 have g11:=ah hs.jo
 have g12:=hs.jo.2
 have g13:=hs.tr0
 have g14:=hs.tr1
 dsimp only[Si.er]at g3 g4 hm g5 g6 g7 g8 g9 g10 g11 g12 g13 g14
 have nnr:=trivial
 have nnq:=trivial
 have yg {g:Prop} (h:g:=by first|(exact⟨by assumption,by omega,by omega⟩)|(first|assumption|(refine⟨?_,?_,?_,?_,?_,?_,?_,?_,?_⟩<;>first|assumption|omega))|(first|omega|assumption|contradiction|(have hq:=ah (hi).2;omega))|(refine⟨?_,?_,?_⟩<;>first|omega|assumption)|fail):g:=h
 have yp {g:Prop} (h:g:=by first|(first|exact ac6 (by assumption)|exact ajC (by assumption) (by assumption)|exact ajD (s:=p.s.er none) (by assumption) (by assumption) (by show¬cN p.s.m p.s.su p.s.jo p.s.go=p.s.m;rw[←(show r2.o=cN p.s.m p.s.su p.s.jo p.s.go∧NL r2.o by assumption).1];assumption) hi|exact ac5 (by assumption) (by have q:=Classical.not_not.1 (by assumption:¬¬r2.o=p.s.m);show cN p.s.m p.s.su p.s.jo p.s.go=p.s.m;rw[←(show r2.o=cN p.s.m p.s.su p.s.jo p.s.go∧NL r2.o by assumption).1];exact q))|fail):g:=h
 have yq {g:Prop} (h:g:=by first|(refine cn (.mk _ (.mk p.s.N p.s.mh p.s.m p.s.rh p.s.log p.s.ba p.s.com p.s.sh p.s.hs p.s.prm p.s.aa p.s.avh p.s.av p.s.ath p.s.atl p.s.sa p.s.me p.s.th p.s.met p.s.su p.s.jo p.s.go p.s.wa p.s.se p.s.ro p.s.tr p.s.wh p.s.was p.s.be p.s.wc ..) ..) (h:= ?_);exact wo)|fail):g:=h
 exact wz
noncomputable def rT:NN:=iD ur Hd [(0,4),(1,20)] [4,5,10,14,15,16,18,19,20]
noncomputable def ft_instG':NV (fun e0 e1=>aA [e0,e1] [] [] 0xb5c26c2c8265e8ac478159239a12382fde92bd7537719b73234ba715cbdbf41e5bc23305f37d44c3c999f505bd96cdc6c0d9433ef691349d6972a797d62fb5e6692d28603a45d438384ed79acea94b2951823aa988c5e4e4cd):=⟨_,by conv=>rhs;reduce⟩
noncomputable abbrev PD:XF:=ft_instG'.1 (eC 52 2 am) (eC 68 18 aF)
theorem DH:aK Tryz.prog 76 PD=true:=by kernel_rfl
structure aas where
 q:Nat→Value
 N:Int
 mh:Value
 m:List Int
 me:Int
 rh:Value
 log:List Ke
 ba:Int
 com:Int
 sh:Bool
 hs:List (Int×Int)
structure ZE where
 z:Mg
theorem NX:aB Tryz.prog 76 4 (aO (fun p:aas=>([.ptr 0 0],(.node (.node (.node .leaf (some (.kmap true true false (Int×Int) p.hs aY aX)) .leaf) (some (bZ p.N p.rh p.m p.me 2 p.log.length p.ba p.com (p.sh=true) 3)) .leaf) (some (o_z p.N p.mh p.m p.q)) (.node .leaf (some (bu p.log)) .leaf)),4)) (fun p=>p.log.length≤400∧0≤p.ba∧p.ba≤(p.log.length:Int)∧p.m.length≤8) (fun p K=>aj fun r:ZE=>iP (r.z.er={aE 10 with vn:=p.N,vl:=p.m,l:=p.log.take p.ba.toNat}) (K (jU r.z.k r.z.N r.z.fr r.z.c r.z.b r.z.acc [] r.z.vn r.z.vh r.z.vl r.z.pn r.z.pl (r.z.has=true) r.z.mh r.z.ml r.z.h r.z.l r.z.th r.z.tl) (.node (.node (.node .leaf (some (.kmap true true false (Int×Int) p.hs aY aX)) .leaf) (some (bZ p.N p.rh p.m p.me 2 p.log.length p.ba p.com (p.sh=true) 3)) .leaf) (some (o_z p.N p.mh p.m p.q)) (.node .leaf (some (bu p.log)) .leaf)) 4) true)):=nE (nat:=rT) DH fun p K hpre hK=>by
 dsimp only at hpre hK ⊢
 obtain⟨g1,g2,g3,g4⟩:=hpre
 have nnx:=trivial
 have nnr:=trivial
 have nnh:=trivial
 have ys {g:Prop} (h:g:=by first|(first|omega|(simp;done)|(simp;omega);done)|fail):g:=h
 have yg {g:Prop} (h:g:=by first|(first|omega|(simp only[akA,akJ];omega))|fail):g:=h
 have yp {g:Prop} (h:g:=by first|(rw[hi1.1,hi.1];rfl)|fail):g:=h
 have ye {g:Prop} (h:g:=by first|(exact cQ hK (.mk (.mk _ _ _ _ _ _ _ _ _ _ _ _ _ [] _ _ _ [] ..) ..))|fail):g:=h
 exact wz
noncomputable def pQ:NN:=iD rT NX [(0,4)] [4,5,6,7,8,9,10,11,12,13,14,15,16,17,18,19,20]
theorem ah3 {x:Ou} {p0 p2 p5 p6 p7 p9 p10 p25 p26 p27 p28 p29 p30 p31 p32:PL} (h0:jL (.sint 1 x.to) p0:=by first|exact .inl rfl|exact .inr (.inl ⟨_,_,rfl,rfl⟩)) (h2:jL (.sint 1 x.m.k) p2:=by first|exact .inl rfl|exact .inr (.inl ⟨_,_,rfl,rfl⟩)) (h5:jL (.sint 3 x.m.N) p5:=by first|exact .inl rfl|exact .inr (.inl ⟨_,_,rfl,rfl⟩)) (h6:jL (.sint 3 x.m.fr) p6:=by first|exact .inl rfl|exact .inr (.inl ⟨_,_,rfl,rfl⟩)) (h7:jL (.sint 3 x.m.c) p7:=by first|exact .inl rfl|exact .inr (.inl ⟨_,_,rfl,rfl⟩)) (h9:jL (.sint 4 x.m.b) p9:=by first|exact .inl rfl|exact .inr (.inl ⟨_,_,rfl,rfl⟩)) (h10:jL (.sint 4 x.m.acc) p10:=by first|exact .inl rfl|exact .inr (.inl ⟨_,_,rfl,rfl⟩)) (h25:jL (.sint 3 x.m.vn) p25:=by first|exact .inl rfl|exact .inr (.inl ⟨_,_,rfl,rfl⟩)) (h26:jL (.imm x.m.vh 2 Int x.m.vl am) p26:=by first|exact .inl rfl|exact .inr (.inr (.inl ⟨_,_,_,by decide,rfl,rfl⟩))) (h27:jL (.sint 1 x.m.pn) p27:=by first|exact .inl rfl|exact .inr (.inl ⟨_,_,rfl,rfl⟩)) (h28:jL (.sint 2 x.m.pl) p28:=by first|exact .inl rfl|exact .inr (.inl ⟨_,_,rfl,rfl⟩)) (h29:jL (.sbool (x.m.has=true)) p29:=by first|exact .inl rfl|exact .inr (.inr (.inr ⟨_,_,rfl,rfl,Iff.rfl⟩))) (h30:jL (.imm x.m.mh 2 Int x.m.ml am) p30:=by first|exact .inl rfl|exact .inr (.inr (.inl ⟨_,_,_,by decide,rfl,rfl⟩))) (h31:jL (.imm x.m.h 18 Ke x.m.l aF) p31:=by first|exact .inl rfl|exact .inr (.inr (.inl ⟨_,_,_,by decide,rfl,rfl⟩))) (h32:jL (.imm x.m.th 18 Ke x.m.tl aF) p32:=by first|exact .inl rfl|exact .inr (.inr (.inl ⟨_,_,_,by decide,rfl,rfl⟩))):jj ([x].map cB) [[p0,.int 2 (.ofNat 1),p2,.int 1 (.ofNat 0),.int 1 (.ofNat 0),p5,p6,p7,.int 3 (.ofNat 0),p9,p10,.int 1 (.ofNat 0),.int 2 (.ofNat 0),.int 3 (.ofNat 0),.int 1 (.ofNat 0),.int 1 (.ofNat 0),.int 1 (.ofNat 0),.int 1 (.ofNat 0),.int 1 (.ofNat 0),.int 1 (.ofNat 0),.int 1 (.ofNat 0),.nilS,.int 1 (.ofNat 0),.str [],.int 1 (.ofNat 0),p25,p26,p27,p28,p29,p30,p31,p32]]:=⟨⟨h0,.inl rfl,h2,.inl rfl,.inl rfl,h5,h6,h7,.inl rfl,h9,h10,.inl rfl,.inl rfl,.inl rfl,.inl rfl,.inl rfl,.inl rfl,.inl rfl,.inl rfl,.inl rfl,.inl rfl,.inl rfl,.inl rfl,.inl rfl,.inl rfl,h25,h26,h27,h28,h29,h30,h31,h32,trivial⟩,trivial⟩
def iT (N:Int) (m:List Int) (me:Int) (log:List Ke) (com:Int) (hs:List (Int×Int)) (p:Int):Int×Mx:=(p,{aE 3 with N:=N,fr:=(kU m me log hs p).1,c:=com,l:=(kU m me log hs p).2})
theorem Xg {N:Int} {m:List Int} {me:Int} {log:List Ke} {com:Int} {hs:List (Int×Int)} {d:List Int} {i p:Int} {o:List Ou} {y:Ou} (hi:0≤i) (h:o.map Ou.er=(d.take i.toNat).map (iT N m me log com hs)) (hx:d[i.toNat]?=some p) (hy:y.er=iT N m me log com hs p):(o++[y]).map Ou.er=(d.take (i+1).toNat).map (iT N m me log com hs):=by
 rw[show(i+1).toNat=i.toNat+1 by omega,List.take_add_one,hx,aky,h]
 simp[hy]
theorem nK {N:Int} {m:List Int} {me:Int} {log:List Ke} {com:Int} {hs:List (Int×Int)} {d:List Int} {o:List Ou} (h:o.map Ou.er=d.map (iT N m me log com hs)):o.length=d.length:=by simpa using congrArg List.length h
theorem ais {N:Int} {m:List Int} {me:Int} {log l:List Ke} {com z:Int} {hs:List (Int×Int)} {p:Int} {h1 h2 h3 h4:Value} (e:(z,l)=kU m me log hs p):Ou.er ⟨p,⟨3,N,z,com,0,0,0,h1,[],0,0,false,h2,[],h3,l,h4,[]⟩⟩=iT N m me log com hs p:=by
 unfold iT
 rw[←e];rfl
theorem ah2 {m:List Int} {me:Int} {log l:List Ke} {ba com z:Int} {hs:List (Int×Int)} {p:Int} (h:ROk m me log ba com hs) (e:(z,l)=kU m me log hs p):0≤z∧z≤400:=by
 have e1:=congrArg Prod.fst e
 have hb:=fW h p
 have hl:=h.len
 unfold kU at e1
 split at e1<;>simp only at e1<;>omega
noncomputable def bd_l_lead':NV (cS [] [] [] 0x176848a2c5c118ebe58a962fd9b124c4187df75a79ace4851afd74b35aec1b41ab721c8c81aae89c972a8c3560190bfd4e00c77bdeb6415b30e43ebc5f846f41dda7d86ff7dde4efcbc45f95325130022d37a0e729a2410babc9363e51c806612d411e8c4738aeb2ab345eccc9):=⟨_,by conv=>rhs;reduce⟩
noncomputable abbrev yI:XC:=bd_l_lead'.1
noncomputable def ft_leadG':NV (fun e0 b0=>aA [e0] [] [b0] 0xa74c6e24dbb8449e0b8e053ecced713c0b1d535a6022821b7f593ec7f9452a2f03e0):=⟨_,by conv=>rhs;reduce⟩
noncomputable abbrev Pz:XF:=ft_leadG'.1 (eB 118 33 cB) yI
theorem DD:aK Tryz.prog 70 Pz=true:=by kernel_rfl
structure Db where
 q:Nat→Value
 N:Int
 mh:Value
 m:List Int
 me:Int
 rh:Value
 log:List Ke
 ba:Int
 com:Int
 sh:Bool
 hs:List (Int×Int)
 dh:Value
 d:List Int
 o:List Ou
 i:Int
structure QJ where
 o:List Ou
noncomputable def OG:bM:=ce bQ 0 (fun p:Db=>((.cons 17 (.sy (.int 0 p.i)) (.cons 16 (.sy (.int 0 (p.d.length:Int))) (.cons 15 (.sy (.imm p.dh 2 Int p.d am)) (.cons 3 (.sy (.prow 4 p.o.length)) (.cons 0 (.ptr 0 0) .nil))))),(.node (.node (.node .leaf (some (.kmap true true false (Int×Int) p.hs aY aX)) .leaf) (some (bZ p.N p.rh p.m p.me 2 p.log.length p.ba p.com (p.sh=true) 3)) .leaf) (some (SZ p.N p.mh p.m p.q)) (.node (.node .leaf (some (lm p.o)) .leaf) (some (bu p.log)) .leaf)),5)) (fun p=>ROk p.m p.me p.log p.ba p.com p.hs∧0≤p.N∧p.N<4294967296∧p.d.length≤8∧0≤p.i∧p.i≤(p.d.length:Int)∧p.o.map Ou.er=(p.d.take p.i.toNat).map (iT p.N p.m p.me p.log p.com p.hs)) (fun p K=>aj fun r:QJ=>iP (r.o.map Ou.er=p.d.map (iT p.N p.m p.me p.log p.com p.hs)) (K 2 (.cons 3 (.sy (.prow 4 r.o.length)) .nil) (.node (.node (.node .leaf (some (.kmap true true false (Int×Int) p.hs aY aX)) .leaf) (some (bZ p.N p.rh p.m p.me 2 p.log.length p.ba p.com (p.sh=true) 3)) .leaf) (some (SZ p.N p.mh p.m p.q)) (.node (.node .leaf (some (lm r.o)) .leaf) (some (bu p.log)) .leaf)) 5) true)
theorem Kp:bg Tryz.prog 54 4 OG true 0 yI:=lL (nat:=pQ) (fun p:Db=>((p.d.length:Int) - p.i).toNat) cq (fun _ _ _ _=>rfl) fun p K hpre hK=>by
 dsimp only at hpre hK ⊢
 obtain⟨hpre,g2,g3,g4,g5,g6,g7⟩:=hpre
 have hl:=nK g7
 have hl2:=List.length_take_le p.i.toNat p.d
 have hc0:=hpre.com0
 have hc1:=hpre.com1
 have hc2_:=hpre.len
 have ys {g:Prop} (h:g:=by first|(simp only[mP];first|omega|(have hb:=ah2 hpre hi;omega);done)|(exact ah3)|(simp[bU];omega;done)|fail):g:=h
 have yp {g:Prop} (h:g:=by first|(rw[List.take_of_length_le (by omega)]at g7;exact g7)|fail):g:=h
 have yb {g:Prop} (h:g:=by first|(exact⟨hpre,g2,g3,g4,by omega,by omega,Xg g5 g7 (by assumption) (ais (by assumption))⟩)|fail):g:=h
 have yq {g:Prop} (h:g:=by first|(refine wX [(.mk _ (.mk ..) ..)] (by first|exact sd|exact ys) ?_;exact wz)|fail):g:=h
 exact wz
structure aao where
 q:Nat→Value
 N:Int
 mh:Value
 m:List Int
 me:Int
 rh:Value
 log:List Ke
 ba:Int
 com:Int
 sh:Bool
 hs:List (Int×Int)
structure Zt where
 o:List Ou
theorem NT:aB Tryz.prog 70 4 (aO (fun p:aao=>([.ptr 0 0],(.node (.node (.node .leaf (some (.kmap true true false (Int×Int) p.hs aY aX)) .leaf) (some (bZ p.N p.rh p.m p.me 2 p.log.length p.ba p.com (p.sh=true) 3)) .leaf) (some (SZ p.N p.mh p.m p.q)) (.node .leaf (some (bu p.log)) .leaf)),4)) (fun p=>ROk p.m p.me p.log p.ba p.com p.hs∧0≤p.N∧p.N<4294967296) (fun p K=>aj fun r:Zt=>iP (r.o.map Ou.er=(p.m.drop 1).map (iT p.N p.m p.me p.log p.com p.hs)) (K (.sy (.prow 4 r.o.length)) (.node (.node (.node .leaf (some (.kmap true true false (Int×Int) p.hs aY aX)) .leaf) (some (bZ p.N p.rh p.m p.me 2 p.log.length p.ba p.com (p.sh=true) 3)) .leaf) (some (SZ p.N p.mh p.m p.q)) (.node (.node .leaf (some (lm r.o)) .leaf) (some (bu p.log)) .leaf)) 5) true)):=nF (nat:=pQ) DD (dC Kp) fun p K hpre hK=>by
 dsimp only at hpre hK ⊢
 obtain⟨hpre,g2,g3⟩:=hpre
 have hm:=ah hpre.nl
 have hne:=List.length_pos_iff.2 (List.ne_nil_of_mem hpre.me)
 have yg {g:Prop} (h:g:=by first|(exact⟨hpre,g2,g3,by first|omega|(simp only[akA,akJ];omega),by omega,by first|omega|(simp only[akA,akJ];omega),rfl⟩)|fail):g:=h
 have yp {g:Prop} (h:g:=by first|(first|exact hi|(rw[List.take_of_length_le (by rw[akJ];omega)]at hi;exact hi))|fail):g:=h
 have yq {g:Prop} (h:g:=by first|(refine cn (.mk _ _ _ _ _ _ _ _ _ _ _ _ _ [] ..) (h:= ?_);exact wo)|fail):g:=h
 exact wz
noncomputable def xR:NN:=iD pQ NT [(0,4)] [4,5,6,8,9,10,11,12,13,14,15,16,17,18,19,20]
def eO (N me:Int) (m:List Int) (v:Pq):List (Int×Mx):=cI me (if v.ph=1 then {aE 9 with N:=N,b:=v.b,ml:=v.ch.1,tl:=v.ch.2} else {aE 5 with N:=N,b:=v.b}) (gK v.ph m v.gt)
theorem af1 {N me:Int} {m l:List Int} {v:Qi} {o:List Ou} {z:Mg} (hp:v.ph=1) (hl:l=gK v.ph m v.gt) (h:o.map Ou.er=cI me z.er l) (hz:z.er={aE 9 with N:=N,b:=v.b,ml:=v.cm,tl:=v.ct}):o.map Ou.er=eO N me m v.er:=by
 unfold eO
 rw[h,hl,hz,if_pos (show v.er.ph=1 from hp)];rfl
theorem aiH {N me:Int} {m l:List Int} {v:Qi} {o:List Ou} {z:Mg} (hp:¬v.ph=1) (hl:l=gK v.ph m v.gt) (h:o.map Ou.er=cI me z.er l) (hz:z.er={aE 5 with N:=N,b:=v.b}):o.map Ou.er=eO N me m v.er:=by
 unfold eO
 rw[h,hl,hz,if_neg (show¬v.er.ph=1 from hp)];rfl
noncomputable def ft_askG':NV (fun e0 e1=>aA [e0,e1] [] [] 0x1468508bb5997092c25cb740ff1839f990f0514d129aa045b71afd75bd312afa8ef94820a0f9374a795256cfdeea3221a75787721755ec0b9c1545146811731795bd6364b9f5ee2c18fe512c4a7f20afed5093a8e7edca1921d68b94dfdb8e3418a2b0a94214059919b96418ddcfd2d24c233002fd92c66950b840e8ec25d7d82bf):=⟨_,by conv=>rhs;reduce⟩
noncomputable abbrev Ye:XF:=ft_askG'.1 (eC 52 2 am) (eC 68 18 aF)
theorem If:aK Tryz.prog 71 Ye=true:=by kernel_rfl
structure ahQ where
 q:Nat→Value
 N:Int
 me:Int
 m:List Int
 v:Qi
structure ag2 where
 o:List Ou
theorem WD:aB Tryz.prog 71 3 (aO (fun p:ahQ=>([.ptr 0 0],(.node (.node .leaf (some (.blk false 161 11 [[.int 1 (.ofNat 0),.sy (.int 3 p.N),.sy (.imm p.v.qh 2 Int p.m am),.sy (.int 4 p.v.b),.sy (.int 0 p.v.ph),.map 2,.sy (.int 4 p.v.best),.sy (.vl p.v.hh true Vl p.v.held cK),.sy (.imm p.v.qth 18 Ke p.v.qt aF),.sy (.imm p.v.cmh 2 Int p.v.cm am),.sy (.imm p.v.cth 18 Ke p.v.ct aF)]])) .leaf) (some (o_A p.q p.N p.me)) (.node .leaf (some (.kmap true true false Int p.v.gt am cC)) .leaf)),3)) (fun p=>p.m.length≤8∧p.v.cm.length≤1000∧p.v.ct.length≤400) (fun p K=>aj fun r:ag2=>iP (r.o.map Ou.er=eO p.N p.me p.m p.v.er) (K (.sy (.prow 3 r.o.length)) (.node (.node (.node .leaf (some (lm r.o)) .leaf) (some (.blk false 161 11 [[.int 1 (.ofNat 0),.sy (.int 3 p.N),.sy (.imm p.v.qh 2 Int p.m am),.sy (.int 4 p.v.b),.sy (.int 0 p.v.ph),.map 2,.sy (.int 4 p.v.best),.sy (.vl p.v.hh true Vl p.v.held cK),.sy (.imm p.v.qth 18 Ke p.v.qt aF),.sy (.imm p.v.cmh 2 Int p.v.cm am),.sy (.imm p.v.cth 18 Ke p.v.ct aF)]])) .leaf) (some (o_A p.q p.N p.me)) (.node .leaf (some (.kmap true true false Int p.v.gt am cC)) .leaf)) 4) true)):=nE (nat:=xR) If fun p K hpre hK=>by
 dsimp only at hpre hK ⊢
 obtain⟨g1,g2,g3⟩:=hpre
 have nnr:=trivial
 have yg {g:Prop} (h:g:=by first|(first|(constructor<;>omega)|(have e:=(by assumption:_∧_);rw[e.1,e.2];constructor<;>omega)|(have h3:=hq.held _ (by assumption);constructor<;>omega)|(have h3:=hq.held _ (by assumption);have e:=hi;rw[e.1,e.2];constructor<;>omega))|fail):g:=h
 have yp {g:Prop} (h:g:=by first|(first|exact aiH (by assumption) (by assumption:_=gK _ _ _∧_).1 (hi).1 rfl|exact af1 (by assumption) (by assumption:_=gK _ _ _∧_).1 (hi).1 (by have e:=(by assumption:_=p.v.cm∧_=p.v.ct);rw[←e.1,←e.2];rfl))|fail):g:=h
 have yq {g:Prop} (h:g:=by first|(refine cn (.mk _ _ (.mk _ _ _ _ _ _ _ _ [] _ _ _ _ _ _ [] ..) ..) (h:= ?_);exact wo)|(refine cn (.mk _ _ (.mk _ _ _ _ _ _ _ _ [] _ _ _ _ [] _ [] _ [] ..) ..) (h:= ?_);exact wo)|fail):g:=h
 exact wz
noncomputable def AG:NN:=iD xR WD [(0,4)] [0,2,3,4,6,10,11,12,13,14,15,16,17,18,19,20]
noncomputable def Hy (M:T) (i r:Nat):Bool:=match M.get i with
 |some (.blk _ _ _ (el::_))=>match bP el r with
  |some (.int _ _)=>true
  |_=>false
 |_=>false
noncomputable def Ny (a:Bool):Bool:=Bool.rec true false a
def bV (now:Int) (s:St) (N:Int) (m:List Int) (l:List Ke):St:=
 if s.me∈m then {s with N:=N,m:=m,log:=l,ba:=l.length,com:=l.length,sh:=false,hs:=m.map fun y=>(y,(l.length:Int)),prm:=0,aa:=0,av:=([],[]),q:=none,sa:=0,se:=N,su:=s.su.filter fun x=>decide (x∈m),go:=s.go.filter fun x=>decide (x∈m),jo:=s.jo.filter fun x=>decide (¬x∈m),wa:=false,tr:=now+2}
 else {N:=0,m:=[],log:=[],ba:=0,com:=0,sh:=false,hs:=[],prm:=0,aa:=0,av:=([],[]),q:=none,sa:=0,me:=s.me,met:=s.met,su:=s.su,jo:=s.jo,go:=s.go,wa:=s.wa,se:=N,ro:=s.ro,tr:=s.tr,was:=if 0<s.N then s.log else s.was,wc:=if 0<s.N then s.com else s.wc}
structure jY (s:St):Prop where
 se0:0≤s.se
 se1:s.se<4294967295
 me:0≤s.me∧s.me<8
 su:NL s.su
 jo:NL s.jo
 go:NL s.go
 met:NL s.met
 was:bS s.was
 wasl:s.was.length≤400
theorem YY {s:Si} {q:Option Pq} {now N:Int} {m:List Int} {l w:List Ke} {h:Value} (hm:¬s.me∈m) (hN:0<s.N) (hw:w=s.log):(⟨s.me,s.th,s.met,s.su,s.jo,s.go,s.wa,N,s.ro,s.tr,h,w,s.be,s.com⟩:So).er=bV now (s.er q) N m l:=by
 unfold bV
 rw[if_neg (show¬(s.er q).me∈m from hm),if_pos (show 0<(s.er q).N from hN),if_pos (show 0<(s.er q).N from hN),hw]
 rfl
theorem YX {s:So} {now N:Int} {m:List Int} {l w:List Ke} {h:Value} (hm:¬s.me∈m) (hw:w=s.was):(⟨s.me,s.th,s.met,s.su,s.jo,s.go,s.wa,N,s.ro,s.tr,h,w,s.be,s.wc⟩:So).er=bV now s.er N m l:=by
 unfold bV
 rw[if_neg (show¬s.er.me∈m from hm),hw]
 rfl
theorem II {s z:St} {now N:Int} {m:List Int} {l:List Ke} (hm:s.me∈m) (h:z={s with N:=N,m:=m,log:=l,ba:=l.length,com:=l.length,sh:=false,hs:=m.map fun y=>(y,(l.length:Int)),prm:=0,aa:=0,av:=([],[]),q:=none,sa:=0,se:=N,su:=s.su.filter fun x=>decide (x∈m),go:=s.go.filter fun x=>decide (x∈m),jo:=s.jo.filter fun x=>decide (¬x∈m),wa:=false,tr:=now+2}):z=bV now s N m l:=by
 unfold bV
 rw[if_pos hm,h]
noncomputable def ft_vclnG':NV (aA [] [] [] 0x46bfff2fd3682afdb1813bfa24e164666a941e5993ac72748fca9ef04a08):=⟨_,by conv=>rhs;reduce⟩
noncomputable abbrev Pj:XF:=ft_vclnG'.1
theorem Do:aK Tryz.prog 38 Pj=true:=by kernel_rfl
structure aab where
 N:Int
 mh:Value
 m:List Int
structure Ze where
 mh:Value
theorem NH:aB Tryz.prog 38 0 (aO (fun p:aab=>([ll p.N p.mh p.m],.leaf,0)) (fun p=>p.m.length≤1000000) (fun p K=>aj fun r:Ze=>K (ll p.N r.mh p.m) .leaf 0)):=nE (nat:=AG) Do fun p K hpre hK=>by
 dsimp only at hpre hK ⊢
 have h1:=hpre
 have nnx:=trivial
 have ys {g:Prop} (h:g:=by first|(first|rfl|exact(by assumption:_=p.m∧_).1)|fail):g:=h
 have yq {g:Prop} (h:g:=by first|(refine wX p.m (by first|exact sd|exact ys) ?_;exact wz)|fail):g:=h
 exact wz
noncomputable def xI:NN:=bW AG NH [(0,15)]
noncomputable def ft_clkG':NV (fun e0=>aA [e0] [] [] 0x3164405d82b11e213abcd99c17c197217132b8f2619cbd3e8da9389eb5):=⟨_,by conv=>rhs;reduce⟩
noncomputable abbrev Yc:XF:=ft_clkG'.1 (eB 68 18 aF)
theorem Ic:aK Tryz.prog 35 Yc=true:=by kernel_rfl
structure ahO where
 h:Value
 l:List Ke
structure ag0 where
 h:Value
 o:List Ke
theorem WB:aB Tryz.prog 35 0 (aO (fun p:ahO=>([.sy (.imm p.h 18 Ke p.l aF)],.leaf,0)) (fun p=>p.l.length≤1000000) (fun p K=>aj fun r:ag0=>iP (r.o=p.l) (K (.sy (.imm r.h 18 Ke r.o aF)) .leaf 0) true)):=nE (nat:=xI) Ic fun p K hpre hK=>by
 dsimp only at hpre hK ⊢
 have h1:=hpre
 have nnc:=trivial
 have nnl:=trivial
 have yp {g:Prop} (h:g:=by first|(first|rfl|(have e:p.l=[]:=(by first|assumption|exact hi hc|(apply akG;exact hi hc));rw[e]))|(first|rfl|(have e:p.l=[]:=(by first|assumption|exact hi hc1|(apply akG;exact hi hc1));rw[e]))|fail):g:=h
 have ye {g:Prop} (h:g:=by first|(exact cQ hK (.mk _ [] ..))|fail):g:=h
 exact wz
noncomputable def AE:NN:=bW xI WB [(0,23)]
noncomputable def ft_adopti':NV (fun e0 e1=>aA [e0,e1] [] [] 0x84d37127699675de4c47415572e9735c56cf437b6c43035ac012aa871ebc14c72256f4a3510989ffa41b9f07e353849910ef5ae8a48be4d84e7bd581853f09123802ff4a0604e86a2604264dddc8c0b7e46adf07805ce6434c04806fa68cc47bf386886a0f9e5020ad07970b69355b0c774b51652445f865a1d91c8335123b626ba01cfaf489a1570b2dda3f20ca8c72d4aae7f86aa90c79d3c86f09ab6c29f813fadb590af777ad00c741c2441ce8a049cb3f428773e6bc777cedc5e0198b6d8dd01287977db22cebadf7ba2d2bc8b5bb071eba4226bc7c06f452900c196e6153539):=⟨_,by conv=>rhs;reduce⟩
noncomputable abbrev Ls:XF:=ft_adopti'.1 (eC 52 2 am) (eC 68 18 aF)
theorem qj:aK Tryz.prog 46 Ls=true:=by kernel_rfl
structure RF where
 fq:Nat→Value
 s:Si
 now:Int
 vn:Int
 vh:Value
 vl:List Int
 eh:Value
 el:List Ke
structure Rg where
 s:Si
structure Mr where
 s:So
theorem Ka:aB Tryz.prog 46 1 (aO (fun p:RF=>([.ptr 0 0,.sy (.int 0 p.now),ll p.vn p.vh p.vl,.sy (.imm p.eh 18 Ke p.el aF)],(.node (.node (.node (.node .leaf (some (bu p.s.log)) .leaf) (some (aD p.s.su)) .leaf) (some (bZ p.s.N p.s.rh p.s.m p.s.me 7 p.s.log.length p.s.ba p.s.com (p.s.sh=true) 8)) (.node .leaf (some (aD p.s.go)) .leaf)) (some (.blk false 86 21 [[.int 1 (.ofNat 0),.sy (.int 3 p.s.N),.sy (.imm p.s.mh 2 Int p.s.m am),.ptr 1 0,.ptr 2 0,hv (p.fq 5),.sy (.int 0 p.s.sa),.int 1 (.ofNat 0),.sy (.int 1 p.s.me),.int 2 (.ofNat 1),.sy (.imm p.s.th 2 Int p.s.met am),.sy (.prow 3 p.s.su.length),.sy (.prow 4 p.s.jo.length),.sy (.prow 5 p.s.go.length),.sy (.bool (p.s.wa=true)),.sy (.int 3 p.s.se),.sy (.int 3 p.s.ro),.sy (.int 0 p.s.tr),.sy (.imm p.s.wh 18 Ke p.s.was aF),.sy (.prow 6 p.s.be.length),.sy (.int 0 p.s.wc)]])) (.node (.node (.node .leaf (some (.kmap true true false (Int×Int) p.s.hs aY aX)) .leaf) (some (aD p.s.jo)) .leaf) (some (eL p.s.prm p.s.aa p.s.avh p.s.av p.s.ath p.s.atl)) (.node .leaf (some (hZ p.s.be)) .leaf))),9)) (fun p=>bA (p.s.er none)∧0≤p.now∧p.now≤1000000000∧NL p.vl∧¬p.vl=[]∧0<p.vn∧p.vn<4294967295∧p.el.length≤400∧p.s.se<p.vn∧(p.s.be.length:Int)≤p.s.se∧0<p.s.N) (fun p K=>ac (aj fun r:Rg=>iP (p.s.me∈p.vl∧(r.s.er none)=bV p.now (p.s.er none) p.vn p.vl p.el∧(r.s.be.length:Int)≤r.s.se∧0<r.s.N) (K (.tup []) (dm r.s r.s r.s) 9) true) (aj fun r:Mr=>iP (¬p.s.me∈p.vl∧r.s.er=bV p.now (p.s.er none) p.vn p.vl p.el∧(r.s.be.length:Int)≤r.s.se) (K (.tup []) (da r.s) 5) true))):=nE (nat:=AE) qj fun p K hpre hK=>by
 dsimp only at hpre hK ⊢
 obtain⟨hK0,hKr0⟩:=ae hK
 have hK1:=hKr0
 obtain⟨hs,n1,n2,v1,v2,v3,v4,e1,s1,b1⟩:=hpre
 have hm:=ah v1
 have hl_:=hs.r.len
 have mb:=hs.r.nl.2 _ hs.r.me
 dsimp only[Si.er]at hl_ mb
 have g3:=hs.sa0
 have g4:=hs.sa1
 have hm:=ah hs.r.nl
 have g5:=hs.r.nl
 have g6:=List.ne_nil_of_mem hs.r.me
 have g7:=hs.n0
 have g8:=hs.n1
 have g9:=ah hs.su
 have g10:=ah hs.go
 have g11:=ah hs.jo
 have g12:=hs.jo.2
 have g13:=hs.tr0
 have g14:=hs.tr1
 dsimp only[Si.er]at g3 g4 hm g5 g6 g7 g8 g9 g10 g11 g12 g13 g14
 have nnx:=trivial
 have nnr:=trivial
 have nnq:=trivial
 have ys {g:Prop} (h:g:=by first|(simp[bU];omega;done)|fail):g:=h
 have yd {g:Prop} (h:g:=by first|(exfalso;omega)|fail):g:=h
 have yg {g:Prop} (h:g:=by first|(first|omega|(simp only[akA,akJ];omega))|(exact⟨by assumption,by assumption,by first|assumption|omega,by first|assumption|exact Classical.not_not.1 (by assumption),by omega⟩)|(first|exact⟨by omega,by omega⟩|assumption)|fail):g:=h
 have yp {g:Prop} (h:g:=by first|(first|(exfalso;omega)|(refine⟨Classical.not_not.1 (by assumption),II (Classical.not_not.1 (by assumption)) ?_,by simp only[akk,akl,akn];omega,v3⟩;simp only[Si.er,So.er, *]))|(first|(exfalso;omega)|exact⟨by assumption,YY (by assumption) (by omega) (by first|(rw[List.take_length];exact(hi).1)|(rw[List.take_of_length_le (akB _)];exact(hi).1)),by omega⟩)|fail):g:=h
 have yz {g:Prop} (h:g:=by first|(simp[bU];omega;done)|fail):g:=h
 have ye {g:Prop} (h:g:=by first|(exact cQ hK0 (.mk (.mk _ _ _ _ _ _ _ _ _ _ _ _ [] _ [] ..) ..))|(exact cQ hK1 (.mk (.mk _ _ _ _ _ _ _ _ _ _ _ [] ..) ..))|fail):g:=h
 have yq {g:Prop} (h:g:=by first|(refine wX [(.mk ..)] (by first|exact sd|exact ys) ?_;exact wz)|fail):g:=h
 exact wz
noncomputable def uG:NN:=fK AE Ka [(0,4),(1,20),(2,15),(3,23)] (fun us M=>Ny (Hy M 0 1))
structure RE where
 s:So
 now:Int
 vn:Int
 vh:Value
 vl:List Int
 eh:Value
 el:List Ke
structure Rf where
 s:Si
structure Mq where
 s:So
theorem JZ:aB Tryz.prog 46 1 (aO (fun p:RE=>([.ptr 0 0,.sy (.int 0 p.now),ll p.vn p.vh p.vl,.sy (.imm p.eh 18 Ke p.el aF)],(da p.s),5)) (fun p=>jY p.s.er∧0≤p.now∧p.now≤1000000000∧NL p.vl∧¬p.vl=[]∧0<p.vn∧p.vn<4294967295∧p.el.length≤400∧p.s.se<p.vn∧(p.s.be.length:Int)≤p.s.se) (fun p K=>ac (aj fun r:Rf=>iP (p.s.me∈p.vl∧(r.s.er none)=bV p.now p.s.er p.vn p.vl p.el∧(r.s.be.length:Int)≤r.s.se∧0<r.s.N) (K (.tup []) (dm r.s r.s r.s) 9) true) (aj fun r:Mq=>iP (¬p.s.me∈p.vl∧r.s.er=bV p.now p.s.er p.vn p.vl p.el∧(r.s.be.length:Int)≤r.s.se) (K (.tup []) (da r.s) 5) true))):=nE (nat:=uG) qj fun p K hpre hK=>by
 dsimp only at hpre hK ⊢
 obtain⟨hK0,hKr0⟩:=ae hK
 have hK1:=hKr0
 obtain⟨hs,n1,n2,v1,v2,v3,v4,e1,s1,b1⟩:=hpre
 have hm:=ah v1
 have mb:=hs.me
 have g9:=ah hs.su
 have g10:=ah hs.go
 have g11:=ah hs.jo
 have g3:=hs.se0
 have g4:=hs.wasl
 dsimp only[So.er]at mb g3 g4 g9 g10 g11
 have nnx:=trivial
 have nnr:=trivial
 have nnq:=trivial
 have ys {g:Prop} (h:g:=by first|(simp[bU];omega;done)|fail):g:=h
 have yd {g:Prop} (h:g:=by first|(exfalso;omega)|fail):g:=h
 have yg {g:Prop} (h:g:=by first|(exact⟨by assumption,by assumption,by first|assumption|omega,by first|assumption|exact Classical.not_not.1 (by assumption),by omega⟩)|(first|exact⟨by omega,by omega⟩|assumption)|fail):g:=h
 have yp {g:Prop} (h:g:=by first|(first|(exfalso;omega)|(refine⟨Classical.not_not.1 (by assumption),II (Classical.not_not.1 (by assumption)) ?_,by simp only[akk,akl,akn];omega,v3⟩;simp only[Si.er,So.er, *]))|(first|(exfalso;omega)|exact⟨by assumption,YX (by assumption) (by first|exact hi|rfl),by omega⟩)|fail):g:=h
 have yz {g:Prop} (h:g:=by first|(simp[bU];omega;done)|fail):g:=h
 have ye {g:Prop} (h:g:=by first|(exact cQ hK0 (.mk (.mk _ _ _ _ _ _ _ _ _ _ _ _ [] _ [] ..) ..))|(exact cQ hK1 (.mk (.mk _ _ _ _ _ _ _ _ _ _ _ [] ..) ..))|fail):g:=h
 have yq {g:Prop} (h:g:=by first|(refine wX [(.mk ..)] (by first|exact sd|exact ys) ?_;exact wz)|fail):g:=h
 exact wz
noncomputable def ko:NN:=fK uG JZ [(0,4),(1,20),(2,15),(3,23)] (fun us M=>Hy M 0 1)
structure PQOk (s:St) (v:Pq):Prop where
 b0:0<v.b
 b1:v.b<18446744073709551616
 ph0:0≤v.ph
 ph1:v.ph≤2
 nd:v.gt.Nodup
 sub:∀x∈v.gt,x∈s.m
 best0:0≤v.best
 best1:v.best<18446744073709551616
 qt:(v.qt.length:Int)≤400 - s.ba
 qtk:bS v.qt
 held:∀u,v.held=some u→NL u.1∧¬u.1=[]∧bS u.2∧(u.2.length:Int)≤400 - s.ba
 ch:(v.ph=0∧v.ch=([],[]))∨(¬v.ph=0∧NL v.ch.1∧¬v.ch.1=[]∧bS v.ch.2∧(v.ch.2.length:Int)≤400 - s.ba)
 avl:¬s.aa=0→(s.av.2.length:Int)≤400 - s.ba
theorem PQOk.chl {s:St} {v:Pq} (h:PQOk s v) (hb:0≤s.ba):v.ch.1.length≤8∧v.ch.2.length≤400:=by
 rcases h.ch with⟨_,e⟩|⟨_,e1,_,_,e2⟩
 ·rw[e];simp
 ·exact⟨ah e1,by omega⟩
theorem PQOk.qok {s:Si} {v:Qi} (hs:bA (s.er none)) (h:PQOk (s.er none) v.er):QOk s.m v.ph v.gt v.held v.qt v.cm v.ct:=by
 have hb:=hs.r.ba0
 have hq:=h.qt
 have hc:=h.chl hb
 dsimp only[Si.er,Qi.er]at hb hq hc
 refine⟨hs.r.nl,List.ne_nil_of_mem hs.r.me,h.nd,h.sub,by omega,fun u hu=> ?_,by omega,hc.2⟩
 have e:=h.held (u.m,u.t) (by show v.held.map Vl.er=_;rw[hu];rfl)
 have e1:=ah e.1
 have e2:=e.2.2.2
 dsimp only[Si.er]at e1 e2
 omega
def ja (now:Int) (s:St) (v:Pq):St×List (Int×Mx):=
 (bV now s (s.N+1) v.ch.1 (s.log.take s.ba.toNat++v.ch.2),cI s.me {aE 10 with vn:=s.N+1,vl:=v.ch.1,l:=s.log.take s.ba.toNat++v.ch.2} s.m++cI s.me {aE 10 with vn:=s.N+1,vl:=v.ch.1,l:=s.log.take s.ba.toNat++v.ch.2} (v.ch.1.filter fun x=>decide (¬x∈s.m)))
theorem jb {α:Type} {a b:List α} (h:b=[]):a=a++b:=by rw[h,List.append_nil]
theorem aiA {l o ct:List Ke} {n:Nat} (h:o=l) (hc:ct=[]):o.take n=l.take n++ct:=by rw[h,hc,List.append_nil]
theorem aiB {l o ct:List Ke} {n:Nat} (h:o=l) (hn:n+ct.length≤o.length):(o.take n++ct++o.drop (n+ct.length)).take (n+ct.length)=l.take n++ct:=by
 rw[List.take_append_of_le_length (by rw[akk,akA];omega),List.take_of_length_le (by rw[akk,akA];omega),h]
theorem Yt {now:Int} {s:Si} {v:Qi} {z:St} {o o1 o2:List Ou} {l:List Ke} {m1:Mg} {k:List Int} (hl:l=s.log.take s.ba.toNat++v.ct) (hz:z=bV now (s.er none) (s.N+1) v.cm l) (h1:o1.map Ou.er=cI z.me m1.er s.m) (h2:o2.map Ou.er=cI z.me m1.er k) (hk:k=v.cm.filter fun x=>decide (¬x∈s.m)) (hm:m1.er={aE 10 with vn:=s.N+1,vl:=v.cm,l:=l}) (ho:o=o1++o2):(z,o.map Ou.er)=ja now (s.er none) v.er:=by
 have hme:z.me=s.me:=by
  rw[hz]
  unfold bV
  split<;>rfl
 subst ho
 rw[aky,h1,h2,hk,hm,hme,hz,hl]
 rfl
noncomputable def bd_d1G':NV (cS [] [] [] 0x1bfcd6cbbd6e3fafd34d9528ec9d6fd45353ed068cac5331ef9fc5df9b797af40cda439d77ed23f12d88a56b5f7bc9d844dcac18e6a4c3f3fb769c3830ca7a3f73f2516bb779b0109fee8d800b0db7ef7a3132250b19842bd3084810dc2b5cfac75113eb3034beee0abb216d81a4bec740e83158ed163098c77cb718d4b260b890d6c851083923accbaebc9d73bc8df4246fc4e3b39c2dfc9c4e93a155058d5b082e59f1184fdd1aa245963d9057038aa55307b1016cbf286688ec0269cd074c90eb2a13c5205049c4f2bee06bc9bee1da7a4f7c3decce1a5cef0f93010f13a622d739d07bb6600ac0c9a8ed398efe015d3d71b7b04640d34f50ba172d822cb51240315e82baa97213e07b9afc799b47c429ad9acdd3d1980bdb4bd80e91b629709133dfc6acc8d83c3c80a8ea7600fb0ae6631e003f00aacc2c2e387a13d86663bfb4c15d13f3fb1a8a89ed8da3db049016ffdf74a67d0140fbf6fde92da955875eaea10be64c9c492915b56a6):=⟨_,by conv=>rhs;reduce⟩
noncomputable abbrev LU:XC:=bd_d1G'.1
noncomputable def bd_d2G':NV (cS [] [] [] 0x6c1e85fb87a759e179d911577d1cd3d28c940f4beade8ebe0a5f2d01f6ac3e3be944dbc41ca6d43735580035757016a05e49353feb2e):=⟨_,by conv=>rhs;reduce⟩
noncomputable abbrev LS:XC:=bd_d2G'.1
noncomputable def ft_decG':NV (fun e0 e1 b0 b1=>aA [e0,e1] [] [b0,b1] 0x540d9365400f926d1b0e4de7e33256d64eac4dd6c1e6757f895e183b0e9f0593e695fdb25e1f8cb1edd6180e07cc341a624c5a2b274e90ff9f361e41986fcb819232a74a8dce836845dd250dbddfd3a71d7a4970f68de02b78cbbdc18c1c55874a006135ec74c29e314b652b9c82abc1d8efcda5e75c3c48a79982624b4b354580505d65193a5b543f404c9a1a5cb4703d53c91a053608704c34da3d9e986f7453):=⟨_,by conv=>rhs;reduce⟩
noncomputable abbrev Yb:XF:=ft_decG'.1 (eC 52 2 am) (eC 68 18 aF) LU LS
theorem Ib:aK Tryz.prog 135 Yb=true:=by kernel_rfl
structure ajq where
 s:Si
 v:Qi
 now:Int
 mh:Value
 th:Value
structure ai1 where
 lh:Value
 l:List Ke
structure ajr where
 s:Si
 v:Qi
 now:Int
structure ai2 where
 mh:Value
 th:Value
noncomputable def EV:bM:=ce (ce bQ 2 (fun p:ajq=>((.cons 7 (.ptr 3 0) (.cons 6 (.ptr 2 0) (.cons 5 (.ptr 1 0) (.cons 1 (.sy (.int 0 p.now)) (.cons 0 (.ptr 0 0) .nil))))),(.node (.node (.node (.node .leaf (some (aD p.s.su)) .leaf) (some (cX (p.s.N+(1:Int)) p.mh p.v.cm)) (.node .leaf (some (bu p.s.log)) .leaf)) (some (.blk false 130 2 [[.sy (.imm p.mh 2 Int p.v.cm am),.sy (.imm p.th 18 Ke p.v.ct aF)]])) (.node (.node .leaf (some (aD p.s.go)) .leaf) (some (eL p.s.prm p.s.aa p.s.avh p.s.av p.s.ath p.s.atl)) (.node .leaf (some (.kmap true true false Int p.v.gt am cC)) .leaf))) (some (pM p.s.N p.s.mh p.s.m 4 5 6 p.s.sa p.s.me p.s.th p.s.met 7 p.s.su.length 8 p.s.jo.length 9 p.s.go.length (p.s.wa=true) p.s.se p.s.ro p.s.tr p.s.wh p.s.was 10 p.s.be.length p.s.wc)) (.node (.node (.node .leaf (some (aD p.s.jo)) .leaf) (some (bZ p.s.N p.s.rh p.s.m p.s.me 11 p.s.log.length p.s.ba p.s.com (p.s.sh=true) 12)) (.node .leaf (some (.kmap true true false (Int×Int) p.s.hs aY aX)) .leaf)) (some (cX p.s.N p.s.mh p.s.m)) (.node (.node .leaf (some (hZ p.s.be)) .leaf) (some (.blk false 161 11 [[.int 1 (.ofNat 0),.sy (.int 3 p.s.N),.sy (.imm p.v.qh 2 Int p.s.m am),.sy (.int 4 p.v.b),.sy (.int 0 p.v.ph),.map 13,.sy (.int 4 p.v.best),.sy (.vl p.v.hh true Vl p.v.held cK),.sy (.imm p.v.qth 18 Ke p.v.qt aF),.sy (.imm p.v.cmh 2 Int p.v.cm am),.sy (.imm p.v.cth 18 Ke p.v.ct aF)]])) .leaf))),14)) (fun p=>ROk p.s.m p.s.me p.s.log p.s.ba p.s.com p.s.hs∧(p.v.ct.length:Int)≤400 - p.s.ba) (fun p K=>aj fun r:ai1=>iP (r.l=p.s.log.take p.s.ba.toNat++p.v.ct) (K 0 (.cons 8 (.sy (.imm r.lh 18 Ke r.l aF)) (.cons 7 (.ptr 2 0) (.cons 6 (.ptr 1 0) (.cons 1 (.sy (.int 0 p.now)) (.cons 0 (.ptr 0 0) .nil))))) (.node (.node (.node (.node .leaf (some (aD p.s.jo)) .leaf) (some (bZ p.s.N p.s.rh p.s.m p.s.me 10 p.s.log.length p.s.ba p.s.com (p.s.sh=true) 11)) (.node .leaf (some (.kmap true true false (Int×Int) p.s.hs aY aX)) .leaf)) (some (cX p.s.N p.s.mh p.s.m)) (.node (.node .leaf (some (hZ p.s.be)) .leaf) (some (.blk false 161 11 [[.int 1 (.ofNat 0),.sy (.int 3 p.s.N),.sy (.imm p.v.qh 2 Int p.s.m am),.sy (.int 4 p.v.b),.sy (.int 0 p.v.ph),.map 12,.sy (.int 4 p.v.best),.sy (.vl p.v.hh true Vl p.v.held cK),.sy (.imm p.v.qth 18 Ke p.v.qt aF),.sy (.imm p.v.cmh 2 Int p.v.cm am),.sy (.imm p.v.cth 18 Ke p.v.ct aF)]])) .leaf)) (some (pM p.s.N p.s.mh p.s.m 3 4 5 p.s.sa p.s.me p.s.th p.s.met 6 p.s.su.length 7 p.s.jo.length 8 p.s.go.length (p.s.wa=true) p.s.se p.s.ro p.s.tr p.s.wh p.s.was 9 p.s.be.length p.s.wc)) (.node (.node (.node .leaf (some (aD p.s.go)) .leaf) (some (eL p.s.prm p.s.aa p.s.avh p.s.av p.s.ath p.s.atl)) (.node .leaf (some (.kmap true true false Int p.v.gt am cC)) .leaf)) (some (cX (p.s.N+(1:Int)) p.mh p.v.cm)) (.node (.node .leaf (some (bu p.s.log)) .leaf) (some (aD p.s.su)) .leaf))) 13) true)) 1 (fun p:ajr=>((.cons 1 (.sy (.int 0 p.now)) (.cons 0 (.ptr 0 0) .nil)),(dl p.s p.s p.s p.s p.v),11)) (fun p=>p.v.cm.length≤1000∧p.v.ct.length≤400) (fun p K=>aj fun r:ai2=>K 0 (.cons 6 (.ptr 2 0) (.cons 5 (.ptr 1 0) (.cons 1 (.sy (.int 0 p.now)) (.cons 0 (.ptr 0 0) .nil)))) (.node (.node (.node (.node .leaf (some (aD p.s.jo)) .leaf) (some (bZ p.s.N p.s.rh p.s.m p.s.me 10 p.s.log.length p.s.ba p.s.com (p.s.sh=true) 11)) (.node .leaf (some (.kmap true true false (Int×Int) p.s.hs aY aX)) .leaf)) (some (.blk false 130 2 [[.sy (.imm r.mh 2 Int p.v.cm am),.sy (.imm r.th 18 Ke p.v.ct aF)]])) (.node (.node .leaf (some (hZ p.s.be)) .leaf) (some (.blk false 161 11 [[.int 1 (.ofNat 0),.sy (.int 3 p.s.N),.sy (.imm p.v.qh 2 Int p.s.m am),.sy (.int 4 p.v.b),.sy (.int 0 p.v.ph),.map 12,.sy (.int 4 p.v.best),.sy (.vl p.v.hh true Vl p.v.held cK),.sy (.imm p.v.qth 18 Ke p.v.qt aF),.sy (.imm p.v.cmh 2 Int p.v.cm am),.sy (.imm p.v.cth 18 Ke p.v.ct aF)]])) .leaf)) (some (pM p.s.N p.s.mh p.s.m 3 4 5 p.s.sa p.s.me p.s.th p.s.met 6 p.s.su.length 7 p.s.jo.length 8 p.s.go.length (p.s.wa=true) p.s.se p.s.ro p.s.tr p.s.wh p.s.was 9 p.s.be.length p.s.wc)) (.node (.node (.node .leaf (some (aD p.s.go)) .leaf) (some (eL p.s.prm p.s.aa p.s.avh p.s.av p.s.ath p.s.atl)) (.node .leaf (some (.kmap true true false Int p.v.gt am cC)) .leaf)) (some (cX p.s.N p.s.mh p.s.m)) (.node (.node .leaf (some (bu p.s.log)) .leaf) (some (aD p.s.su)) .leaf))) 13)
theorem aeD:bg Tryz.prog 70 1 EV false 1 LU:=lP (nat:=ko) cq (fun _ _ _ _=>rfl) fun p K hpre hK=>by
 dsimp only at hpre hK ⊢
 obtain⟨q1,q2⟩:=hpre
 have nnr:=trivial
 have ys {g:Prop} (h:g:=by first|(first|exact(by assumption:_=p.v.cm∧_=p.v.ct).1|exact(by assumption:_=p.v.cm∧_=p.v.ct).2)|fail):g:=h
 have yg {g:Prop} (h:g:=by first|(first|(constructor<;>omega)|(have e:=(by assumption:_∧_);rw[e.1,e.2];constructor<;>omega)|(have h3:=hq.held _ (by assumption);constructor<;>omega)|(have h3:=hq.held _ (by assumption);have e:=hi;rw[e.1,e.2];constructor<;>omega))|fail):g:=h
 have yz {g:Prop} (h:g:=by first|(first|exact(by assumption:_=p.v.cm∧_=p.v.ct).1|exact(by assumption:_=p.v.cm∧_=p.v.ct).2)|fail):g:=h
 have yq {g:Prop} (h:g:=by first|(refine wX p.v.cm (by first|exact sd|exact ys) ?_;exact wz)|(refine wX p.v.ct (by first|exact sd|exact ys) ?_;exact wz)|fail):g:=h
 exact wz
theorem aeC:bg Tryz.prog 70 1 EV false 2 LS:=lP (nat:=ko) cq (fun _ _ _ _=>rfl) fun p K hpre hK=>by
 dsimp only at hpre hK ⊢
 obtain⟨hr,q2⟩:=hpre
 have q3:=hr.ba0
 have q4:=hr.ba1
 have q5:=hr.len
 have nnx:=trivial
 have nnr:=trivial
 have nnl:=trivial
 have ys {g:Prop} (h:g:=by first|(first|omega|(simp;done)|(simp;omega);done)|(first|omega|(simp only[akk,akA,akJ];omega);done)|fail):g:=h
 have yg {g:Prop} (h:g:=by first|(first|omega|(simp only[akA,akJ];omega))|fail):g:=h
 have yp {g:Prop} (h:g:=by first|(first|exact aiA hi.1 (by assumption)|exact aiB hi.1 (by omega)|(rw[hi.1]))|fail):g:=h
 have yq {g:Prop} (h:g:=by first|(refine wX p.v.ct (by first|exact sd|exact ys) ?_;exact wz)|fail):g:=h
 exact wz
structure ahN where
 s:Si
 v:Qi
 now:Int
structure agZ where
 s:Si
 o:List Ou
structure ZM where
 s:So
 o:List Ou
theorem WA:aB Tryz.prog 135 1 (aO (fun p:ahN=>([.ptr 0 0,.sy (.int 0 p.now)],(dl p.s p.s p.s p.s p.v),11)) (fun p=>bA (p.s.er none)∧PQOk (p.s.er none) p.v.er∧((p.s.be.length:Int)≤p.s.se∧0<p.s.N)∧0≤p.now∧p.now≤1000000000∧p.v.ph=2∧p.s.N+1<4294967295) (fun p K=>ac (aj fun r:agZ=>iP (((r.s.er none),r.o.map Ou.er)=ja p.now (p.s.er none) p.v.er∧(r.s.be.length:Int)≤r.s.se∧0<r.s.N) (K (.sy (.prow 1 r.o.length)) (fA r.s r.s r.s r.o) 10) true) (aj fun r:ZM=>iP ((r.s.er,r.o.map Ou.er)=ja p.now (p.s.er none) p.v.er∧(r.s.be.length:Int)≤r.s.se) (K (.sy (.prow 1 r.o.length)) (jc r.s r.o) 6) true))):=nF (nat:=ko) Ib (fun b j x h=>(cu aeD (fun h=>(cu aeC (fun h=>(by cases h)) h)) h)) fun p K hpre hK=>by
 dsimp only at hpre hK ⊢
 obtain⟨hK0,hKr0⟩:=ae hK
 have hK1:=hKr0
 obtain⟨hs,hv,b1,n1,n2,t2,t3⟩:=hpre
 have hq:=PQOk.qok hs hv
 have hl_:=hs.r.len
 have mb:=hs.r.nl.2 _ hs.r.me
 have ba0:=hs.r.ba0
 have ba1:=hs.r.ba1
 have qc:=hq.cm
 have qt_:=hq.ct
 have hse:=hs.se
 have hch:=hv.ch.resolve_left (fun e=>by have e1:=e.1;dsimp only[Qi.er]at e1;omega)
 obtain⟨_,c1,c2,c3,c4⟩:=hch
 dsimp only[Qi.er,Si.er]at hse c1 c2 c3 c4
 have c5:=ah c1
 dsimp only[Si.er]at hl_ mb ba0 ba1
 have g3:=hs.sa0
 have g4:=hs.sa1
 have hm:=ah hs.r.nl
 have g5:=hs.r.nl
 have g6:=List.ne_nil_of_mem hs.r.me
 have g7:=hs.n0
 have g8:=hs.n1
 have g9:=ah hs.su
 have g10:=ah hs.go
 have g11:=ah hs.jo
 have g12:=hs.jo.2
 have g13:=hs.tr0
 have g14:=hs.tr1
 dsimp only[Si.er]at g3 g4 hm g5 g6 g7 g8 g9 g10 g11 g12 g13 g14
 have nnr:=trivial
 have nnl:=trivial
 have ys {g:Prop} (h:g:=by first|(simp[bU];omega;done)|fail):g:=h
 have yg {g:Prop} (h:g:=by first|(exact⟨hs.r,c4⟩)|(first|exact⟨by omega,by omega⟩|assumption)|(exact⟨hs,n1,n2,c1,c2,by omega,by omega,by(have e:=congrArg List.length (by assumption:r1.l=List.take p.s.ba.toNat p.s.log++p.v.ct);simp only[akk,akA]at e;omega),by omega,by omega⟩)|fail):g:=h
 have yp {g:Prop} (h:g:=by first|(exact⟨Yt (by assumption) (by assumption:_∧_=bV _ _ _ _ _∧_).2.1 (by assumption:_=cI _ _ p.s.m∧_).1 (by assumption:_=cI _ _ r2.o∧_).1 (by assumption:r2.o=_∧_).1 rfl (by first|rfl|exact jb (by assumption)),(by assumption:_∧_=bV _ _ _ _ _∧_).2.2⟩)|fail):g:=h
 have yz {g:Prop} (h:g:=by first|(simp[bU];omega;done)|fail):g:=h
 have yq {g:Prop} (h:g:=by first|(refine cn (.mk _ _ (.mk _ _ _ _ _ _ _ _ _ _ _ _ _ [] _ _ _ [] ..) ..) (h:= ?_);exact wo)|(refine wX _ (by first|exact sd|exact ys) ?_;exact wz)|fail):g:=h
 exact wz
noncomputable def tf:NN:=bW ko WA [(0,4),(1,20)]
def dK (now:Int) (s:St) (v:Pq):St×List (Int×Mx):=
 if v.ph=0∧(s.m.length:Int) / 2+1≤(v.gt.length:Int) then
  let c:=ed v.held (cN s.m s.su s.jo s.go) v.qt
  let a:=ez s.m 1 [] s.me
  let w:St×Pq:=if ¬v.b=0∧s.prm≤v.b then ({s with prm:=v.b,aa:=v.b,av:=c},{v with ph:=a.1,gt:=a.2,ch:=c}) else (s,{v with ph:=1,gt:=[],ch:=c})
  if w.2.ph=1 then ({w.1 with q:=some w.2},eO w.1.N w.1.me w.1.m w.2) else if w.2.ph=2 then ja now w.1 w.2 else ({w.1 with q:=some w.2},[])
 else if v.ph=2 then ja now s v else ({s with q:=some v},[])
theorem ads {m su jo go o cm vm:List Int} {qt ct vt:List Ke} {R:Prop} {h1 h2:Option Vl} (hw:o=cN m su jo go∧NL o) (e:R∧h2=h1∧(cm,ct)=ed (h1.map Vl.er) o qt∧vm=cm∧vt=ct):R∧(cm,ct)=ed (h1.map Vl.er) (cN m su jo go) qt∧vm=cm∧vt=ct∧h2=h1:=by
 rw[←hw.1]
 exact⟨e.1,e.2.2.1,e.2.2.2.1,e.2.2.2.2,e.2.1⟩
theorem Ve {now:Int} {s:Si} {v:Qi} (h1:¬(v.ph=0∧(s.m.length:Int) / 2+1≤(v.gt.length:Int))) (h2:v.ph=2):ja now (s.er none) v.er=dK now (s.er none) v.er:=by
 unfold dK
 rw[if_neg (show¬(v.er.ph=0∧((s.er none).m.length:Int) / 2+1≤(v.er.gt.length:Int)) from h1),if_pos (show v.er.ph=2 from h2)]
theorem EG {m d add l:List Int} (hm:NL m) (ha:∀x∈add,0≤x∧x<8) (h:jr m d add=some l):NL l∧¬l=[]:=by
 unfold jr at h
 dsimp only at h
 split at h
 ·rename_i hq
  obtain rfl:=akH h
  refine⟨qW (ib hm) ha,fun e=> ?_⟩
  rw[e]at hq
  have:(m.filter (fun x=>decide (x∈([]:List Int))))=[]:=by simp
  rw[this]at hq
  simp at hq
 ·cases h
theorem TX {m su jo go:List Int} (hm:NL m) (hne:¬m=[]) (hj:NL jo):NL (cN m su jo go)∧¬cN m su jo go=[]:=by
 unfold cN
 split
 ·rename_i l h;exact EG hm hj.2 h
 ·split
  ·rename_i l h;exact EG hm hj.2 h
  ·exact⟨hm,hne⟩
theorem Af {s:St} {v:Pq} (hs:bA s) (hv:PQOk s v):NL (ed v.held (cN s.m s.su s.jo s.go) v.qt).1∧¬(ed v.held (cN s.m s.su s.jo s.go) v.qt).1=[]∧bS (ed v.held (cN s.m s.su s.jo s.go) v.qt).2∧((ed v.held (cN s.m s.su s.jo s.go) v.qt).2.length:Int)≤400 - s.ba:=by
 unfold ed
 cases h:v.held with
 |some u=>exact hv.held u h
 |none=>
  have hw:=TX (su:=s.su) (go:=s.go) hs.r.nl (List.ne_nil_of_mem hs.r.me) hs.jo
  exact⟨hw.1,hw.2,hv.qtk,hv.qt⟩
theorem QOk.next {m:List Int} {ph:Int} {gt:List Int} {h1 h2:Option Vl} {qt:List Ke} {cm c2:List Int} {ct t2:List Ke} (h:QOk m ph gt h1 qt cm ct) (e:h2=h1) (a:c2.length≤1000) (b:t2.length≤400):QOk m 1 [] h2 qt c2 t2:=⟨h.nl,h.ne,.nil,fun x hx=>(by cases hx),h.qt,by rw[e];exact h.held,a,b⟩
theorem Jz {now:Int} {s s1:St} {v w:Pq} {c:List Int×List Ke} (hr:v.ph=0∧(s.m.length:Int) / 2+1≤(v.gt.length:Int)) (hc:c=ed v.held (cN s.m s.su s.jo s.go) v.qt)
  (h:(s1,w)=if ¬v.b=0∧s.prm≤v.b then ({s with prm:=v.b,aa:=v.b,av:=c},{v with ph:=(ez s.m 1 [] s.me).1,gt:=(ez s.m 1 [] s.me).2,ch:=c}) else (s,{v with ph:=1,gt:=[],ch:=c})):
  dK now s v=if w.ph=1 then ({s1 with q:=some w},eO s1.N s1.me s1.m w) else if w.ph=2 then ja now s1 w else ({s1 with q:=some w},[]):=by
 unfold dK
 rw[if_pos hr]
 subst hc
 dsimp only
 rw[←h]
theorem ah5 {now:Int} {s:Si} {v:Qi} {x:Value} {h2:Option Vl} {a b c3 d:Value} {cm:List Int} {ct:List Ke} {o:List Ou} (hr:v.ph=0∧(s.m.length:Int) / 2+1≤(v.gt.length:Int)) (hc:(cm,ct)=ed (v.held.map Vl.er) (cN s.m s.su s.jo s.go) v.qt) (hh:h2=v.held) (hb:v.b=0∨v.b<s.prm)
  (ho:o.map Ou.er=eO s.N s.me s.m (⟨v.b,1,[],v.best,x,h2,a,b,v.qt,c3,cm,d,ct⟩:Qi).er):(s.er (some (⟨v.b,1,[],v.best,x,h2,a,b,v.qt,c3,cm,d,ct⟩:Qi).er),o.map Ou.er)=dK now (s.er none) v.er:=by
 subst hh
 rw[Jz (s:=s.er none) (v:=v.er) (s1:=s.er none) (w:=(⟨v.b,1,[],v.best,x,v.held,a,b,v.qt,c3,cm,d,ct⟩:Qi).er) hr hc (by
  rw[if_neg (show¬(¬v.er.b=0∧(s.er none).prm≤v.er.b) from fun q=>by
   have q1:¬v.b=0:=q.1
   have q2:s.prm≤v.b:=q.2
   omega)]
  rfl),if_pos (show(⟨v.b,1,[],v.best,x,v.held,a,b,v.qt,c3,cm,d,ct⟩:Qi).er.ph=1 from rfl),ho]
 rfl
theorem GU {now:Int} {s:Si} {v:Qi} {av vm cm:List Int} {atl vt ct:List Ke} {h2:Option Vl} {ph:Int} {gt:List Int} (hr:v.ph=0∧(s.m.length:Int) / 2+1≤(v.gt.length:Int)) (hc:(cm,ct)=ed (v.held.map Vl.er) (cN s.m s.su s.jo s.go) v.qt) (hv1:vm=cm) (hv2:vt=ct) (hh:h2=v.held)
  (hb:(¬v.b=0∧s.prm≤v.b)∧av=vm∧atl=vt) (ha:(ph,gt)=ez s.m 1 [] s.me):dK now (s.er none) v.er=if ph=1 then (({s with prm:=v.b,aa:=v.b,avh:=s.avh,av:=av,ath:=s.avh,atl:=atl}:Si).er (some (⟨v.b,ph,gt,v.best,s.avh,h2,s.avh,s.avh,v.qt,s.avh,cm,s.avh,ct⟩:Qi).er),eO s.N s.me s.m (⟨v.b,ph,gt,v.best,s.avh,h2,s.avh,s.avh,v.qt,s.avh,cm,s.avh,ct⟩:Qi).er) else if ph=2 then ja now (({s with prm:=v.b,aa:=v.b,avh:=s.avh,av:=av,ath:=s.avh,atl:=atl}:Si).er none) (⟨v.b,ph,gt,v.best,s.avh,h2,s.avh,s.avh,v.qt,s.avh,cm,s.avh,ct⟩:Qi).er else (({s with prm:=v.b,aa:=v.b,avh:=s.avh,av:=av,ath:=s.avh,atl:=atl}:Si).er (some (⟨v.b,ph,gt,v.best,s.avh,h2,s.avh,s.avh,v.qt,s.avh,cm,s.avh,ct⟩:Qi).er),[]):=by
 obtain⟨hb,e1,e2⟩:=hb
 subst hh;subst hv1;subst hv2;subst e1;subst e2
 rw[Jz (s:=s.er none) (v:=v.er) (s1:=({s with prm:=v.b,aa:=v.b,avh:=s.avh,av:=av,ath:=s.avh,atl:=atl}:Si).er none) (w:=(⟨v.b,ph,gt,v.best,s.avh,v.held,s.avh,s.avh,v.qt,s.avh,av,s.avh,atl⟩:Qi).er) hr hc (by
  rw[if_pos (show¬v.er.b=0∧(s.er none).prm≤v.er.b from hb)]
  have e1:ph=(ez s.m 1 [] s.me).1:=congrArg Prod.fst ha
  have e2:gt=(ez s.m 1 [] s.me).2:=congrArg Prod.snd ha
  rw[e1,e2]
  rfl)]
 rfl
theorem adn {s:Si} {v:Qi} {avh ath x a b c3 d:Value} {av vm cm:List Int} {atl vt ct:List Ke} {h2:Option Vl} {ph:Int} {gt:List Int} (hs:bA (s.er none)) (hv:PQOk (s.er none) v.er) (hv1:vm=cm) (hv2:vt=ct) (hh:h2=v.held) (hb:(¬v.b=0∧s.prm≤v.b)∧av=vm∧atl=vt) (ha:(ph,gt)=ez s.m 1 [] s.me) (hp:ph=2)
  (k1:NL cm) (k2:¬cm=[]) (k3:bS ct) (k4:(ct.length:Int)≤400 - s.ba):bA (({s with prm:=v.b,aa:=v.b,avh:=avh,av:=av,ath:=ath,atl:=atl}:Si).er none)∧PQOk (({s with prm:=v.b,aa:=v.b,avh:=avh,av:=av,ath:=ath,atl:=atl}:Si).er none) (⟨v.b,ph,gt,v.best,x,h2,a,b,v.qt,c3,cm,d,ct⟩:Qi).er:=by
 obtain⟨hb,e1,e2⟩:=hb
 subst hh;subst hv1;subst hv2;subst e1;subst e2
 have e2:gt=fw s.m 1 [] s.me 1:=congrArg Prod.snd ha
 have hn:=Cd (m:=s.m) (ph:=1) (x:=s.me) (z:=1) (gt:=[]) .nil (fun y hy=>by cases hy)
 rw[←e2]at hn
 have b0:=hs.r.ba0
 have l1:=ah k1
 dsimp only[Si.er]at b0
 refine⟨⟨hs.r,hs.n0,hs.n1,hs.se,hs.su,hs.jo,hs.go,hs.met,hs.log,hs.was,hs.wasl,hs.sa0,hs.sa1,hs.tr0,hs.tr1,hs.ro0,hs.ro1,Int.le_of_lt hv.b0,hv.b1,Int.le_of_lt hv.b0,hv.b1,⟨l1,by show atl.length≤400;omega⟩,fun _=>⟨k1,k2,k3⟩⟩,?_⟩
 exact⟨hv.b0,hv.b1,by show 0≤ph;omega,by show ph≤2;omega,hn.1,hn.2,hv.best0,hv.best1,hv.qt,hv.qtk,hv.held,.inr ⟨by show¬ph=0;omega,k1,k2,k3,k4⟩,fun _=>k4⟩
theorem Vf {s:Si} {v:Qi} {avh ath x a b c3 d:Value} {av vm cm:List Int} {atl vt ct:List Ke} {h2:Option Vl} {ph:Int} {gt:List Int} (hs:bA (s.er none)) (hv:PQOk (s.er none) v.er) (hv1:vm=cm) (hv2:vt=ct) (hh:h2=v.held) (hb:(¬v.b=0∧s.prm≤v.b)∧av=vm∧atl=vt) (ha:(ph,gt)=ez s.m 1 [] s.me) (hp:ph=2)
  (k1:NL cm) (k2:¬cm=[]) (k3:bS ct) (k4:(ct.length:Int)≤400 - s.ba) {R:Prop} (hR:R):bA (({s with prm:=v.b,aa:=v.b,avh:=avh,av:=av,ath:=ath,atl:=atl}:Si).er none)∧PQOk (({s with prm:=v.b,aa:=v.b,avh:=avh,av:=av,ath:=ath,atl:=atl}:Si).er none) (⟨v.b,ph,gt,v.best,x,h2,a,b,v.qt,c3,cm,d,ct⟩:Qi).er∧R:=by
 have q:=adn (avh:=avh) (ath:=ath) (x:=x) (a:=a) (b:=b) (c3:=c3) (d:=d) hs hv hv1 hv2 hh hb ha hp k1 k2 k3 k4
 exact⟨q.1,q.2,hR⟩
theorem Vd {now:Int} {s:Si} {v:Qi} (h1:¬(v.ph=0∧(s.m.length:Int) / 2+1≤(v.gt.length:Int))) (h2:¬v.ph=2):(s.er (some v.er),([]:List Ou).map Ou.er)=dK now (s.er none) v.er:=by
 unfold dK
 rw[if_neg (show¬(v.er.ph=0∧((s.er none).m.length:Int) / 2+1≤(v.er.gt.length:Int)) from h1),if_neg (show¬v.er.ph=2 from h2)]
 rfl
noncomputable def bd_o1G':NV (cS [] [] [] 0x6f98aa8868509cb0bfa02ceb192d68d31ec7504eab7287280d9727bd8e2132f60490ac30502517067eaba6b9f97e68e10e0ee6022b8898f5e505cb6a5a2c138b3f24f210490a531b8d9b1d37d4e30409ad707c62d6d3d56189cc0a0c06d2485e6431545e17da242f5e572d0168707b9a51fde567210a030ca8cee9d025493f5f):=⟨_,by conv=>rhs;reduce⟩
noncomputable abbrev LP:XC:=bd_o1G'.1
noncomputable def ft_onG':NV (fun e0 b0=>aA [e0] [] [b0] 0xa3189a3f1f431e8bf3d96d57102b4d1ae82852d191f21a5f5e7385d56f35d6eb5c4cd1521e50e950156a722f37b9e461091fd48c21e41657f2dd21403364815c23311dbee318c3b2c2c0972cfe5af6fb5a500e30ee1e57a81):=⟨_,by conv=>rhs;reduce⟩
noncomputable abbrev afa:XF:=ft_onG'.1 (eB 118 33 cB) LP
theorem Lb:aK Tryz.prog 107 afa=true:=by kernel_rfl
structure ajf where
 s:Si
 v:Qi
 now:Int
structure ags where
 hh:Value
 held:Option Vl
 cmh:Value
 cm:List Int
 cth:Value
 ct:List Ke
 vmh:Value
 vm:List Int
 vth:Value
 vt:List Ke
noncomputable def aem:bM:=ce bQ 1 (fun p:ajf=>((.cons 1 (.sy (.int 0 p.now)) (.cons 0 (.ptr 0 0) .nil)),(dl p.s p.s p.s p.s p.v),11)) (fun p=>bA (p.s.er none)∧PQOk (p.s.er none) p.v.er∧((p.s.be.length:Int)≤p.s.se∧0<p.s.N)) (fun p K=>ac (iP (¬(p.v.ph=0∧(p.s.m.length:Int) / 2+1≤(p.v.gt.length:Int))) (K 0 (.cons 6 (.bool false) (.cons 5 (.ptr 1 0) (.cons 1 (.sy (.int 0 p.now)) (.cons 0 (.ptr 0 0) .nil)))) (.node (.node (.node (.node .leaf (some (aD p.s.go)) .leaf) (some (eL p.s.prm p.s.aa p.s.avh p.s.av p.s.ath p.s.atl)) (.node .leaf (some (.kmap true true false Int p.v.gt am cC)) .leaf)) (some (.blk false 130 2 [[.nilS,.nilS]])) (.node (.node .leaf (some (bu p.s.log)) .leaf) (some (aD p.s.su)) .leaf)) (some (pM p.s.N p.s.mh p.s.m 2 3 4 p.s.sa p.s.me p.s.th p.s.met 5 p.s.su.length 6 p.s.jo.length 7 p.s.go.length (p.s.wa=true) p.s.se p.s.ro p.s.tr p.s.wh p.s.was 8 p.s.be.length p.s.wc)) (.node (.node (.node .leaf (some (hZ p.s.be)) .leaf) (some (.blk false 161 11 [[.int 1 (.ofNat 0),.sy (.int 3 p.s.N),.sy (.imm p.v.qh 2 Int p.s.m am),.sy (.int 4 p.v.b),.sy (.int 0 p.v.ph),.map 11,.sy (.int 4 p.v.best),.sy (.vl p.v.hh true Vl p.v.held cK),.sy (.imm p.v.qth 18 Ke p.v.qt aF),.sy (.imm p.v.cmh 2 Int p.v.cm am),.sy (.imm p.v.cth 18 Ke p.v.ct aF)]])) .leaf) (some (bZ p.s.N p.s.rh p.s.m p.s.me 9 p.s.log.length p.s.ba p.s.com (p.s.sh=true) 10)) (.node (.node .leaf (some (.kmap true true false (Int×Int) p.s.hs aY aX)) .leaf) (some (aD p.s.jo)) .leaf))) 12) true) (aj fun r:ags=>iP ((p.v.ph=0∧(p.s.m.length:Int) / 2+1≤(p.v.gt.length:Int))∧(r.cm,r.ct)=ed (p.v.held.map Vl.er) (cN p.s.m p.s.su p.s.jo p.s.go) p.v.qt∧r.vm=r.cm∧r.vt=r.ct∧r.held=p.v.held∧NL r.cm∧¬r.cm=[]∧bS r.ct∧(r.ct.length:Int)≤400 - p.s.ba∧r.vm.length≤8∧r.vt.length≤400∧r.cm.length≤8∧r.ct.length≤400) (K 0 (.cons 6 (.bool true) (.cons 5 (.ptr 1 0) (.cons 1 (.sy (.int 0 p.now)) (.cons 0 (.ptr 0 0) .nil)))) (.node (.node (.node (.node .leaf (some (aD p.s.go)) .leaf) (some (eL p.s.prm p.s.aa p.s.avh p.s.av p.s.ath p.s.atl)) (.node .leaf (some (.kmap true true false Int ([]:List Int) am cC)) .leaf)) (some (.blk false 130 2 [[.sy (.imm r.vmh 2 Int r.vm am),.sy (.imm r.vth 18 Ke r.vt aF)]])) (.node (.node .leaf (some (bu p.s.log)) .leaf) (some (aD p.s.su)) .leaf)) (some (pM p.s.N p.s.mh p.s.m 2 3 4 p.s.sa p.s.me p.s.th p.s.met 5 p.s.su.length 6 p.s.jo.length 7 p.s.go.length (p.s.wa=true) p.s.se p.s.ro p.s.tr p.s.wh p.s.was 8 p.s.be.length p.s.wc)) (.node (.node (.node .leaf (some (hZ p.s.be)) .leaf) (some (.blk false 161 11 [[.int 1 (.ofNat 0),.sy (.int 3 p.s.N),.sy (.imm p.v.qh 2 Int p.s.m am),.sy (.int 4 p.v.b),.sy (.int 0 (1:Int)),.map 11,.sy (.int 4 p.v.best),.sy (.vl r.hh true Vl r.held cK),.sy (.imm p.v.qth 18 Ke p.v.qt aF),.sy (.imm r.cmh 2 Int r.cm am),.sy (.imm r.cth 18 Ke r.ct aF)]])) .leaf) (some (bZ p.s.N p.s.rh p.s.m p.s.me 9 p.s.log.length p.s.ba p.s.com (p.s.sh=true) 10)) (.node (.node .leaf (some (.kmap true true false (Int×Int) p.s.hs aY aX)) .leaf) (some (aD p.s.jo)) .leaf))) 12) true))
theorem aex:bg Tryz.prog 61 1 aem false 1 LP:=lP (nat:=tf) cq (fun _ _ _ _=>rfl) fun p K hpre hK=>by
 dsimp only at hpre hK ⊢
 obtain⟨hK0,hKr0⟩:=ae hK
 have hK1:=hKr0
 obtain⟨hs,hv,b1⟩:=hpre
 have hq:=PQOk.qok hs hv
 have g3:=hs.sa0
 have g4:=hs.sa1
 have hm:=ah hs.r.nl
 have g5:=hs.r.nl
 have g6:=List.ne_nil_of_mem hs.r.me
 have g7:=hs.n0
 have g8:=hs.n1
 have g9:=ah hs.su
 have g10:=ah hs.go
 have g11:=ah hs.jo
 have g12:=hs.jo.2
 have g13:=hs.tr0
 have g14:=hs.tr1
 dsimp only[Si.er]at g3 g4 hm g5 g6 g7 g8 g9 g10 g11 g12 g13 g14
 have nnr:=trivial
 have yg {g:Prop} (h:g:=by first|(first|assumption|(refine⟨?_,?_,?_,?_,?_,?_,?_,?_,?_⟩<;>first|assumption|omega))|(first|exact⟨by assumption,by omega⟩|exact⟨by assumption,by(have hq_:=ah (hi).2;omega)⟩|(constructor<;>first|omega|(have h3:=hq.held _ (by assumption);omega)))|fail):g:=h
 have yp {g:Prop} (h:g:=by first|(have e:=ads (by assumption) hi;have w:=Af hs hv;have e2:=e.2.1;dsimp only[Qi.er,Si.er]at w;rw[←e2]at w;have w1:=ah w.1;have w2:=w.2.2.2;have b0:=hs.r.ba0;dsimp only[Si.er]at b0 w1 w2;exact⟨e.1,e.2.1,e.2.2.1,e.2.2.2.1,e.2.2.2.2,w.1,w.2.1,w.2.2.1,w2,by rw[e.2.2.1];exact w1,by rw[e.2.2.2.1];omega,w1,by omega⟩)|fail):g:=h
 exact wz
structure aje where
 s:Si
 v:Qi
 now:Int
structure aiS where
 s:Si
 v:Qi
 o:List Ou
structure agr where
 s:Si
 o:List Ou
structure agq where
 s:So
 o:List Ou
theorem adV:aB Tryz.prog 107 1 (aO (fun p:aje=>([.ptr 0 0,.sy (.int 0 p.now)],(dl p.s p.s p.s p.s p.v),11)) (fun p=>bA (p.s.er none)∧PQOk (p.s.er none) p.v.er∧((p.s.be.length:Int)≤p.s.se∧0<p.s.N)∧0≤p.now∧p.now≤1000000000∧p.s.N+1<4294967295) (fun p K=>ac (aj fun r:aiS=>iP (((r.s.er (some r.v.er)),r.o.map Ou.er)=dK p.now (p.s.er none) p.v.er∧(r.s.be.length:Int)≤r.s.se∧0<r.s.N) (K (.sy (.prow 1 r.o.length)) (gG r.s r.s r.s r.s r.v r.o) 12) true) (ac (aj fun r:agr=>iP (((r.s.er none),r.o.map Ou.er)=dK p.now (p.s.er none) p.v.er∧(r.s.be.length:Int)≤r.s.se∧0<r.s.N) (K (.sy (.prow 1 r.o.length)) (fA r.s r.s r.s r.o) 10) true) (aj fun r:agq=>iP ((r.s.er,r.o.map Ou.er)=dK p.now (p.s.er none) p.v.er∧(r.s.be.length:Int)≤r.s.se) (K (.sy (.prow 1 r.o.length)) (jc r.s r.o) 6) true)))):=nF (nat:=tf) Lb (dC aex) fun p K hpre hK=>by
 dsimp only at hpre hK ⊢
 obtain⟨hK0,hKr0⟩:=ae hK
 obtain⟨hK1,hKr1⟩:=ae hKr0
 have hK2:=hKr1
 obtain⟨hs,hv,b1,n1,n2,t3⟩:=hpre
 have hq:=PQOk.qok hs hv
 have g3:=hs.sa0
 have g4:=hs.sa1
 have hm:=ah hs.r.nl
 have g5:=hs.r.nl
 have g6:=List.ne_nil_of_mem hs.r.me
 have g7:=hs.n0
 have g8:=hs.n1
 have g9:=ah hs.su
 have g10:=ah hs.go
 have g11:=ah hs.jo
 have g12:=hs.jo.2
 have g13:=hs.tr0
 have g14:=hs.tr1
 dsimp only[Si.er]at g3 g4 hm g5 g6 g7 g8 g9 g10 g11 g12 g13 g14
 have nnr:=trivial
 have yg {g:Prop} (h:g:=by first|(exact⟨hs,hv,b1⟩)|(first|(exfalso;omega)|exact⟨hs,hv,b1,n1,n2,by omega,t3⟩|(have ho_:=(by assumption:(_∧_)∧(_,_)=ed _ _ _∧_);have hb_:=(by assumption:(¬_=(0:Int)∧_)∧_=_∧_=_);have ha_:=(by assumption:(_,_)=ez _ _ _ _);exact Vf (s:=p.s) (v:=p.v) hs hv ho_.2.2.1 ho_.2.2.2.1 ho_.2.2.2.2.1 hb_ ha_ (Classical.not_not.1 (by assumption)) ho_.2.2.2.2.2.1 ho_.2.2.2.2.2.2.1 ho_.2.2.2.2.2.2.2.1 ho_.2.2.2.2.2.2.2.2.1 ⟨b1,n1,n2,Classical.not_not.1 (by assumption),t3⟩))|(first|assumption|exact⟨by omega,by omega⟩)|(refine⟨?_,?_,?_⟩<;>omega)|(first|assumption|exact QOk.next hq (by assumption:_∧_∧_∧_∧r1.held=p.v.held∧_).2.2.2.2.1 (by omega) (by omega))|fail):g:=h
 have yp {g:Prop} (h:g:=by first|(first|(exfalso;omega)|exact⟨Vd (by assumption) (by assumption),by omega⟩|(have ho_:=(by assumption:(_∧_)∧(_,_)=ed _ _ _∧_);exact⟨ah5 (s:=p.s) (v:=p.v) ho_.1 ho_.2.1 ho_.2.2.2.2.1 (by assumption) hi,b1⟩)|(have ho_:=(by assumption:(_∧_)∧(_,_)=ed _ _ _∧_);have hb_:=(by assumption:(¬_=(0:Int)∧_)∧_=_∧_=_);have ha_:=(by assumption:(_,_)=ez _ _ _ _);exact⟨by rw[GU (s:=p.s) (v:=p.v) ho_.1 ho_.2.1 ho_.2.2.1 ho_.2.2.2.1 ho_.2.2.2.2.1 hb_ ha_,if_pos (by assumption)];exact congrArg (Prod.mk _) hi,b1⟩)|(have ho_:=(by assumption:(_∧_)∧(_,_)=ed _ _ _∧_);have hb_:=(by assumption:(¬_=(0:Int)∧_)∧_=_∧_=_);have ha_:=(by assumption:(_,_)=ez _ _ _ _);exact⟨by rw[GU (s:=p.s) (v:=p.v) ho_.1 ho_.2.1 ho_.2.2.1 ho_.2.2.2.1 ho_.2.2.2.2.1 hb_ ha_,if_neg (by assumption),if_neg (by assumption)]<;>rfl,b1⟩))|(first|(exfalso;omega)|exact⟨(hi).1.trans (Ve (by assumption) (Classical.not_not.1 (by assumption))),(hi).2⟩|(have ho_:=(by assumption:(_∧_)∧(_,_)=ed _ _ _∧_);have hb_:=(by assumption:(¬_=(0:Int)∧_)∧_=_∧_=_);have ha_:=(by assumption:(_,_)=ez _ _ _ _);exact⟨by rw[GU (s:=p.s) (v:=p.v) ho_.1 ho_.2.1 ho_.2.2.1 ho_.2.2.2.1 ho_.2.2.2.2.1 hb_ ha_,if_neg (by assumption),if_pos (Classical.not_not.1 (by assumption))];exact(hi).1,(hi).2⟩))|fail):g:=h
 have ye {g:Prop} (h:g:=by first|(exact cQ hK0 (.mk (.mk ..) (.mk ..) [] ..))|(exact cQ hK0 (.mk (.mk ..) (.mk _ _ [] ..) [] ..))|fail):g:=h
 have yq {g:Prop} (h:g:=by first|(refine cn (.mk (.mk ..) (.mk _ _ [] ..) ..) (h:= ?_);exact wo)|(refine cn (.mk _ _ _ _ (.mk _ _ [] p.v.best r1.hh r1.held ..) ..) (h:= ?_);exact wo)|(refine cn (.mk _ _ _ _ (.mk _ _ _ p.v.best r1.hh r1.held ..) ..) (h:= ?_);exact wo)|(refine cn (.mk _ _ _ _ _ [] ..) (h:= ?_);exact wo)|fail):g:=h
 exact wz
end Go.Proofs.Tryz
