/- Definitions and lemmas of the proof, without a condition of their own. -/
import Derived.Test.YtjhpjjbnojbikaaGreatK4a
import Derived.KernelRfl
set_option linter.unusedSimpArgs false
set_option linter.unusedVariables false
open List renaming eq_nil_of_length_eq_zero→amo,length_append→al2,length_cons→al3,length_drop→amr,length_map→al4,length_nil→al5,length_take→ami,map_append→amg
open Nat renaming le_refl→amj
open Option.some renaming inj→amp
namespace Go.Proofs.Tryz
open Go Go.RowKit Go.Sy
open Go.Eng hiding aj
set_option maxRecDepth 1000000
set_option linter.unusedVariables false
set_option maxHeartbeats 4000000
attribute [local irreducible] aq
noncomputable def uD:NN:=iV uK Kt [(0,4),(1,20)] [4,5,7,10,11,12,13,14,15,16,17,18,19,20]
noncomputable def ft_shouldG':NV (aB [] [] [] 0x14ddda0595a162c91971cb3ae0ebe309da1500823de3f414e8436257fda3185141d83d05b7f1e8018095cfbdaaa930028a0c548e32a1b3012f31):=⟨_,by conv=>rhs;reduce⟩
noncomputable abbrev Iv:XF:=ft_shouldG'.1
theorem zj:aK Tryz.prog 72 Iv=true:=by kernel_rfl
structure Nq where
 q:Nat→Value
 s:Si
 now:Int
structure MW where
 z:Prop
theorem HF:aA Tryz.prog 72 7 (aO (fun p:Nq=>([.ptr 0 0,.sy (.int 0 p.now)],(.node (.node (.node .leaf (some (aE p.s.jo)) .leaf) (some (ce p.s.N p.s.rh p.s.m p.s.me 5 p.s.log.length p.s.ba p.s.com (p.s.sh=true) 6)) (.node .leaf (some (bu p.s.log)) .leaf)) (some (o_t p.s.N p.s.mh p.s.m p.q p.s.sa p.s.me p.s.su.length p.s.jo.length p.s.go.length p.s.tr)) (.node (.node .leaf (some (aE p.s.go)) .leaf) (some (aE p.s.su)) (.node .leaf (some (.kmap true true false (Int×Int) p.s.hs aX aW)) .leaf))),7)) (fun p=>bz (p.s.er none)∧0≤p.now∧p.now≤1000000000) (fun p K=>aj fun r:MW=>iP (r.z↔fp p.now (p.s.er none)) (K (.sy (.bool r.z)) (.node (.node (.node .leaf (some (aE p.s.jo)) .leaf) (some (ce p.s.N p.s.rh p.s.m p.s.me 5 p.s.log.length p.s.ba p.s.com (p.s.sh=true) 6)) (.node .leaf (some (bu p.s.log)) .leaf)) (some (o_t p.s.N p.s.mh p.s.m p.q p.s.sa p.s.me p.s.su.length p.s.jo.length p.s.go.length p.s.tr)) (.node (.node .leaf (some (aE p.s.go)) .leaf) (some (aE p.s.su)) (.node .leaf (some (.kmap true true false (Int×Int) p.s.hs aX aW)) .leaf))) 7) true)):=nE (nat:=uD) zj fun p K hpre hK=>by
 dsimp only at hpre hK ⊢
 obtain⟨hs,g1,g2⟩:=hpre
 have g3:=hs.sa0
 have g4:=hs.sa1
 have hm:=ah hs.r.nl
 have g5:=hs.r.nl
 have g6:=List.ne_nil_of_mem hs.r.me
 have g7:=hs.n0
 have g8:=hs.n1
 have g9:=ah hs.su
 have g10:=ah hs.go
 have g11:=ah hs.jo
 have g12:=hs.jo.2
 have g13:=hs.tr0
 have g14:=hs.tr1
 dsimp only[Si.er]at g3 g4 hm g5 g6 g7 g8 g9 g10 g11 g12 g13 g14
 have nnr:=trivial
 have nnq:=trivial
 have yg {g:Prop} (h:g:=by first|(exact⟨by assumption,by omega,by omega⟩)|(first|assumption|(refine⟨?_,?_,?_,?_,?_,?_,?_,?_,?_⟩<;>first|assumption|omega))|(first|omega|assumption|contradiction|(have hq:=ah (hi).2;omega))|(refine⟨?_,?_,?_⟩<;>first|omega|assumption)|fail):g:=h
 have yp {g:Prop} (h:g:=by first|(first|exact aek (by assumption)|exact alg (by assumption) (by assumption)|exact alh (s:=p.s.er none) (by assumption) (by assumption) (by show¬bK p.s.m p.s.su p.s.jo p.s.go=p.s.m;rw[←(show r2.o=bK p.s.m p.s.su p.s.jo p.s.go∧NL r2.o by assumption).1];assumption) hi|exact aej (by assumption) (by have q:=Classical.not_not.1 (by assumption:¬¬r2.o=p.s.m);show bK p.s.m p.s.su p.s.jo p.s.go=p.s.m;rw[←(show r2.o=bK p.s.m p.s.su p.s.jo p.s.go∧NL r2.o by assumption).1];exact q))|fail):g:=h
 have yq {g:Prop} (h:g:=by first|(refine cb (.mk _ (.mk p.s.N p.s.mh p.s.m p.s.rh p.s.log p.s.ba p.s.com p.s.sh p.s.hs p.s.prm p.s.aa p.s.avh p.s.av p.s.ath p.s.atl p.s.sa p.s.me p.s.th p.s.met p.s.su p.s.jo p.s.go p.s.wa p.s.se p.s.ro p.s.tr p.s.wh p.s.was p.s.be p.s.wc ..) ..) (h:= ?_);exact wo)|fail):g:=h
 exact wz
noncomputable def sw:NN:=iV uD HF [(0,4),(1,20)] [4,5,10,14,15,16,18,19,20]
noncomputable def ft_instG':NV (fun e0 e1=>aB [e0,e1] [] [] 0x59927284e60509fe0c304a269970af77b88f3c30e4d913092b1054288213b70d34f2f33cbd088b2a0ea564f3a0a5d26e065982833e42c0d8cb27b2c0dbf9898823741bb1061f3abb3c65c9e2637b689b1172b6251af0a84f6c):=⟨_,by conv=>rhs;reduce⟩
noncomputable abbrev Qw:XF:=ft_instG'.1 (eC 52 2 am) (eC 68 18 aD)
theorem Ee:aK Tryz.prog 76 Qw=true:=by kernel_rfl
structure abH where
 q:Nat→Value
 N:Int
 mh:Value
 m:List Int
 me:Int
 rh:Value
 log:List Ke
 ba:Int
 com:Int
 sh:Bool
 hs:List (Int×Int)
structure aa3 where
 z:Mg
theorem OO:aA Tryz.prog 76 4 (aO (fun p:abH=>([.ptr 0 0],(.node (.node (.node .leaf (some (.kmap true true false (Int×Int) p.hs aX aW)) .leaf) (some (ce p.N p.rh p.m p.me 2 p.log.length p.ba p.com (p.sh=true) 3)) .leaf) (some (o_z p.N p.mh p.m p.q)) (.node .leaf (some (bu p.log)) .leaf)),4)) (fun p=>p.log.length≤400∧0≤p.ba∧p.ba≤(p.log.length:Int)∧p.m.length≤8) (fun p K=>aj fun r:aa3=>iP (r.z.er={aF 10 with vn:=p.N,vl:=p.m,l:=p.log.take p.ba.toNat}) (K (kB r.z.k r.z.N r.z.fr r.z.c r.z.b r.z.acc [] r.z.vn r.z.vh r.z.vl r.z.pn r.z.pl (r.z.has=true) r.z.mh r.z.ml r.z.h r.z.l r.z.th r.z.tl) (.node (.node (.node .leaf (some (.kmap true true false (Int×Int) p.hs aX aW)) .leaf) (some (ce p.N p.rh p.m p.me 2 p.log.length p.ba p.com (p.sh=true) 3)) .leaf) (some (o_z p.N p.mh p.m p.q)) (.node .leaf (some (bu p.log)) .leaf)) 4) true)):=nE (nat:=sw) Ee fun p K hpre hK=>by
 dsimp only at hpre hK ⊢
 obtain⟨g1,g2,g3,g4⟩:=hpre
 have nnx:=trivial
 have nnr:=trivial
 have nnh:=trivial
 have ys {g:Prop} (h:g:=by first|(first|omega|(simp;done)|(simp;omega);done)|fail):g:=h
 have yg {g:Prop} (h:g:=by first|(first|omega|(simp only[ami,amr];omega))|fail):g:=h
 have yp {g:Prop} (h:g:=by first|(rw[hi1.1,hi.1];rfl)|fail):g:=h
 have ye {g:Prop} (h:g:=by first|(exact cR hK (.mk (.mk _ _ _ _ _ _ _ _ _ _ _ _ _ [] _ _ _ [] ..) ..))|fail):g:=h
 exact wz
noncomputable def qm:NN:=iV sw OO [(0,4)] [4,5,6,7,8,9,10,11,12,13,14,15,16,17,18,19,20]
theorem aju {x:Ou} {p0 p2 p5 p6 p7 p9 p10 p25 p26 p27 p28 p29 p30 p31 p32:PL} (h0:ko (.sint 1 x.to) p0:=by first|exact .inl rfl|exact .inr (.inl ⟨_,_,rfl,rfl⟩)) (h2:ko (.sint 1 x.m.k) p2:=by first|exact .inl rfl|exact .inr (.inl ⟨_,_,rfl,rfl⟩)) (h5:ko (.sint 3 x.m.N) p5:=by first|exact .inl rfl|exact .inr (.inl ⟨_,_,rfl,rfl⟩)) (h6:ko (.sint 3 x.m.fr) p6:=by first|exact .inl rfl|exact .inr (.inl ⟨_,_,rfl,rfl⟩)) (h7:ko (.sint 3 x.m.c) p7:=by first|exact .inl rfl|exact .inr (.inl ⟨_,_,rfl,rfl⟩)) (h9:ko (.sint 4 x.m.b) p9:=by first|exact .inl rfl|exact .inr (.inl ⟨_,_,rfl,rfl⟩)) (h10:ko (.sint 4 x.m.acc) p10:=by first|exact .inl rfl|exact .inr (.inl ⟨_,_,rfl,rfl⟩)) (h25:ko (.sint 3 x.m.vn) p25:=by first|exact .inl rfl|exact .inr (.inl ⟨_,_,rfl,rfl⟩)) (h26:ko (.imm x.m.vh 2 Int x.m.vl am) p26:=by first|exact .inl rfl|exact .inr (.inr (.inl ⟨_,_,_,by decide,rfl,rfl⟩))) (h27:ko (.sint 1 x.m.pn) p27:=by first|exact .inl rfl|exact .inr (.inl ⟨_,_,rfl,rfl⟩)) (h28:ko (.sint 2 x.m.pl) p28:=by first|exact .inl rfl|exact .inr (.inl ⟨_,_,rfl,rfl⟩)) (h29:ko (.sbool (x.m.has=true)) p29:=by first|exact .inl rfl|exact .inr (.inr (.inr ⟨_,_,rfl,rfl,Iff.rfl⟩))) (h30:ko (.imm x.m.mh 2 Int x.m.ml am) p30:=by first|exact .inl rfl|exact .inr (.inr (.inl ⟨_,_,_,by decide,rfl,rfl⟩))) (h31:ko (.imm x.m.h 18 Ke x.m.l aD) p31:=by first|exact .inl rfl|exact .inr (.inr (.inl ⟨_,_,_,by decide,rfl,rfl⟩))) (h32:ko (.imm x.m.th 18 Ke x.m.tl aD) p32:=by first|exact .inl rfl|exact .inr (.inr (.inl ⟨_,_,_,by decide,rfl,rfl⟩))):jC ([x].map cE) [[p0,.int 2 (.ofNat 1),p2,.int 1 (.ofNat 0),.int 1 (.ofNat 0),p5,p6,p7,.int 3 (.ofNat 0),p9,p10,.int 1 (.ofNat 0),.int 2 (.ofNat 0),.int 3 (.ofNat 0),.int 1 (.ofNat 0),.int 1 (.ofNat 0),.int 1 (.ofNat 0),.int 1 (.ofNat 0),.int 1 (.ofNat 0),.int 1 (.ofNat 0),.int 1 (.ofNat 0),.nilS,.int 1 (.ofNat 0),.str [],.int 1 (.ofNat 0),p25,p26,p27,p28,p29,p30,p31,p32]]:=⟨⟨h0,.inl rfl,h2,.inl rfl,.inl rfl,h5,h6,h7,.inl rfl,h9,h10,.inl rfl,.inl rfl,.inl rfl,.inl rfl,.inl rfl,.inl rfl,.inl rfl,.inl rfl,.inl rfl,.inl rfl,.inl rfl,.inl rfl,.inl rfl,.inl rfl,h25,h26,h27,h28,h29,h30,h31,h32,trivial⟩,trivial⟩
def jj (N:Int) (m:List Int) (me:Int) (log:List Ke) (com:Int) (hs:List (Int×Int)) (p:Int):Int×Mx:=(p,{aF 3 with N:=N,fr:=(fW m me log hs p).1,c:=com,l:=(fW m me log hs p).2})
theorem Yy {N:Int} {m:List Int} {me:Int} {log:List Ke} {com:Int} {hs:List (Int×Int)} {d:List Int} {i p:Int} {o:List Ou} {y:Ou} (hi:0≤i) (h:o.map Ou.er=(d.take i.toNat).map (jj N m me log com hs)) (hx:d[i.toNat]?=some p) (hy:y.er=jj N m me log com hs p):(o++[y]).map Ou.er=(d.take (i+1).toNat).map (jj N m me log com hs):=by
 rw[show(i+1).toNat=i.toNat+1 by omega,List.take_add_one,hx,amg,h]
 simp[hy]
theorem od {N:Int} {m:List Int} {me:Int} {log:List Ke} {com:Int} {hs:List (Int×Int)} {d:List Int} {o:List Ou} (h:o.map Ou.er=d.map (jj N m me log com hs)):o.length=d.length:=by simpa using congrArg List.length h
theorem ajY {N:Int} {m:List Int} {me:Int} {log l:List Ke} {com z:Int} {hs:List (Int×Int)} {p:Int} {h1 h2 h3 h4:Value} (e:(z,l)=fW m me log hs p):Ou.er ⟨p,⟨3,N,z,com,0,0,0,h1,[],0,0,false,h2,[],h3,l,h4,[]⟩⟩=jj N m me log com hs p:=by
 unfold jj
 rw[←e];rfl
theorem ajt {m:List Int} {me:Int} {log l:List Ke} {ba com z:Int} {hs:List (Int×Int)} {p:Int} (h:ROk m me log ba com hs) (e:(z,l)=fW m me log hs p):0≤z∧z≤400:=by
 have e1:=congrArg Prod.fst e
 have hb:=fx h p
 have hl:=h.len
 unfold fW at e1
 split at e1<;>simp only at e1<;>omega
noncomputable def bd_l_lead':NV (df [] [] [] 0x1d0c27328cf5b8454669bce95613af9cc69eaa7a2cecb23cd0b4842f00a5319b4f42239ddb1a3715d2c1c6765961733818c7b60b0e4cc7ddcd16f7ff0b1aba94fe3da563ecbe6cb9d8707c65be009742e4fec62098e3df2b7feae8f484fb8cea37a2df2ac4e49e4edfc2090586):=⟨_,by conv=>rhs;reduce⟩
noncomputable abbrev yS:XC:=bd_l_lead'.1
noncomputable def ft_leadG':NV (fun e0 b0=>aB [e0] [] [b0] 0xccd9a8af0615a7cf01d8ef2b01751b4f7424d0de6e2ea95f59dd5ec93c52988db74a):=⟨_,by conv=>rhs;reduce⟩
noncomputable abbrev Qr:XF:=ft_leadG'.1 (eB 118 33 cE) yS
theorem Ea:aK Tryz.prog 70 Qr=true:=by kernel_rfl
structure Dy where
 q:Nat→Value
 N:Int
 mh:Value
 m:List Int
 me:Int
 rh:Value
 log:List Ke
 ba:Int
 com:Int
 sh:Bool
 hs:List (Int×Int)
 dh:Value
 d:List Int
 o:List Ou
 i:Int
structure RG where
 o:List Ou
noncomputable def Pv:bN:=cq bT 0 (fun p:Dy=>((.cons 17 (.sy (.int 0 p.i)) (.cons 16 (.sy (.int 0 (p.d.length:Int))) (.cons 15 (.sy (.imm p.dh 2 Int p.d am)) (.cons 3 (.sy (.prow 4 p.o.length)) (.cons 0 (.ptr 0 0) .nil))))),(.node (.node (.node .leaf (some (.kmap true true false (Int×Int) p.hs aX aW)) .leaf) (some (ce p.N p.rh p.m p.me 2 p.log.length p.ba p.com (p.sh=true) 3)) .leaf) (some (TZ p.N p.mh p.m p.q)) (.node (.node .leaf (some (lV p.o)) .leaf) (some (bu p.log)) .leaf)),5)) (fun p=>ROk p.m p.me p.log p.ba p.com p.hs∧0≤p.N∧p.N<4294967296∧p.d.length≤8∧0≤p.i∧p.i≤(p.d.length:Int)∧p.o.map Ou.er=(p.d.take p.i.toNat).map (jj p.N p.m p.me p.log p.com p.hs)) (fun p K=>aj fun r:RG=>iP (r.o.map Ou.er=p.d.map (jj p.N p.m p.me p.log p.com p.hs)) (K 2 (.cons 3 (.sy (.prow 4 r.o.length)) .nil) (.node (.node (.node .leaf (some (.kmap true true false (Int×Int) p.hs aX aW)) .leaf) (some (ce p.N p.rh p.m p.me 2 p.log.length p.ba p.com (p.sh=true) 3)) .leaf) (some (TZ p.N p.mh p.m p.q)) (.node (.node .leaf (some (lV r.o)) .leaf) (some (bu p.log)) .leaf)) 5) true)
theorem Lc:bj Tryz.prog 54 4 Pv true 0 yS:=lL (nat:=qm) (fun p:Dy=>((p.d.length:Int) - p.i).toNat) cy (fun _ _ _ _=>rfl) fun p K hpre hK=>by
 dsimp only at hpre hK ⊢
 obtain⟨hpre,g2,g3,g4,g5,g6,g7⟩:=hpre
 have hl:=od g7
 have hl2:=List.length_take_le p.i.toNat p.d
 have hc0:=hpre.com0
 have hc1:=hpre.com1
 have hc2_:=hpre.len
 have ys {g:Prop} (h:g:=by first|(simp only[gX];first|omega|(have hb:=ajt hpre hi;omega);done)|(exact aju)|(simp[bR];omega;done)|fail):g:=h
 have yp {g:Prop} (h:g:=by first|(rw[List.take_of_length_le (by omega)]at g7;exact g7)|fail):g:=h
 have yb {g:Prop} (h:g:=by first|(exact⟨hpre,g2,g3,g4,by omega,by omega,Yy g5 g7 (by assumption) (ajY (by assumption))⟩)|fail):g:=h
 have yq {g:Prop} (h:g:=by first|(refine wX [(.mk _ (.mk ..) ..)] (by first|exact sd|exact ys) ?_;exact wz)|fail):g:=h
 exact wz
structure abD where
 q:Nat→Value
 N:Int
 mh:Value
 m:List Int
 me:Int
 rh:Value
 log:List Ke
 ba:Int
 com:Int
 sh:Bool
 hs:List (Int×Int)
structure aaR where
 o:List Ou
theorem OL:aA Tryz.prog 70 4 (aO (fun p:abD=>([.ptr 0 0],(.node (.node (.node .leaf (some (.kmap true true false (Int×Int) p.hs aX aW)) .leaf) (some (ce p.N p.rh p.m p.me 2 p.log.length p.ba p.com (p.sh=true) 3)) .leaf) (some (TZ p.N p.mh p.m p.q)) (.node .leaf (some (bu p.log)) .leaf)),4)) (fun p=>ROk p.m p.me p.log p.ba p.com p.hs∧0≤p.N∧p.N<4294967296) (fun p K=>aj fun r:aaR=>iP (r.o.map Ou.er=(p.m.drop 1).map (jj p.N p.m p.me p.log p.com p.hs)) (K (.sy (.prow 4 r.o.length)) (.node (.node (.node .leaf (some (.kmap true true false (Int×Int) p.hs aX aW)) .leaf) (some (ce p.N p.rh p.m p.me 2 p.log.length p.ba p.com (p.sh=true) 3)) .leaf) (some (TZ p.N p.mh p.m p.q)) (.node (.node .leaf (some (lV r.o)) .leaf) (some (bu p.log)) .leaf)) 5) true)):=nF (nat:=qm) Ea (dB Lc) fun p K hpre hK=>by
 dsimp only at hpre hK ⊢
 obtain⟨hpre,g2,g3⟩:=hpre
 have hm:=ah hpre.nl
 have hne:=List.length_pos_iff.2 (List.ne_nil_of_mem hpre.me)
 have yg {g:Prop} (h:g:=by first|(exact⟨hpre,g2,g3,by first|omega|(simp only[ami,amr];omega),by omega,by first|omega|(simp only[ami,amr];omega),rfl⟩)|fail):g:=h
 have yp {g:Prop} (h:g:=by first|(first|exact hi|(rw[List.take_of_length_le (by rw[amr];omega)]at hi;exact hi))|fail):g:=h
 have yq {g:Prop} (h:g:=by first|(refine cb (.mk _ _ _ _ _ _ _ _ _ _ _ _ _ [] ..) (h:= ?_);exact wo)|fail):g:=h
 exact wz
noncomputable def yc:NN:=iV qm OL [(0,4)] [4,5,6,8,9,10,11,12,13,14,15,16,17,18,19,20]
def eu (N me:Int) (m:List Int) (v:Pq):List (Int×Mx):=cB me (if v.ph=1 then {aF 9 with N:=N,b:=v.b,ml:=v.ch.1,tl:=v.ch.2} else {aF 5 with N:=N,b:=v.b}) (gZ v.ph m v.gt)
theorem ahh {N me:Int} {m l:List Int} {v:Qi} {o:List Ou} {z:Mg} (hp:v.ph=1) (hl:l=gZ v.ph m v.gt) (h:o.map Ou.er=cB me z.er l) (hz:z.er={aF 9 with N:=N,b:=v.b,ml:=v.cm,tl:=v.ct}):o.map Ou.er=eu N me m v.er:=by
 unfold eu
 rw[h,hl,hz,if_pos (show v.er.ph=1 from hp)];rfl
theorem akf {N me:Int} {m l:List Int} {v:Qi} {o:List Ou} {z:Mg} (hp:¬v.ph=1) (hl:l=gZ v.ph m v.gt) (h:o.map Ou.er=cB me z.er l) (hz:z.er={aF 5 with N:=N,b:=v.b}):o.map Ou.er=eu N me m v.er:=by
 unfold eu
 rw[h,hl,hz,if_neg (show¬v.er.ph=1 from hp)];rfl
noncomputable def ft_askG':NV (fun e0 e1=>aB [e0,e1] [] [] 0x18776507d7fe260ed6e981b1ede2f8ba1ded51876069286455af8e4dd28c05638e64da1567756e6938babae475ffdc0c27214c51ee22e9d164edf389258b1b278898967d4e2d0ec7b68c337f4a07a708aa5fa9cb6357af0e5718a62682678e490e9127ea195a3ecfd4f79e58b0199e2512f65e510513742b67eb4872965ef0fb92f):=⟨_,by conv=>rhs;reduce⟩
noncomputable abbrev Zw:XF:=ft_askG'.1 (eC 52 2 am) (eC 68 18 aD)
theorem IP:aK Tryz.prog 71 Zw=true:=by kernel_rfl
structure aje where
 q:Nat→Value
 N:Int
 me:Int
 m:List Int
 v:Qi
structure aio where
 o:List Ou
theorem XV:aA Tryz.prog 71 3 (aO (fun p:aje=>([.ptr 0 0],(.node (.node .leaf (some (.blk false 161 11 [[.int 1 (.ofNat 0),.sy (.int 3 p.N),.sy (.imm p.v.qh 2 Int p.m am),.sy (.int 4 p.v.b),.sy (.int 0 p.v.ph),.map 2,.sy (.int 4 p.v.best),.sy (.vl p.v.hh true Vl p.v.held cO),.sy (.imm p.v.qth 18 Ke p.v.qt aD),.sy (.imm p.v.cmh 2 Int p.v.cm am),.sy (.imm p.v.cth 18 Ke p.v.ct aD)]])) .leaf) (some (o_A p.q p.N p.me)) (.node .leaf (some (.kmap true true false Int p.v.gt am cF)) .leaf)),3)) (fun p=>p.m.length≤8∧p.v.cm.length≤1000∧p.v.ct.length≤400) (fun p K=>aj fun r:aio=>iP (r.o.map Ou.er=eu p.N p.me p.m p.v.er) (K (.sy (.prow 3 r.o.length)) (.node (.node (.node .leaf (some (lV r.o)) .leaf) (some (.blk false 161 11 [[.int 1 (.ofNat 0),.sy (.int 3 p.N),.sy (.imm p.v.qh 2 Int p.m am),.sy (.int 4 p.v.b),.sy (.int 0 p.v.ph),.map 2,.sy (.int 4 p.v.best),.sy (.vl p.v.hh true Vl p.v.held cO),.sy (.imm p.v.qth 18 Ke p.v.qt aD),.sy (.imm p.v.cmh 2 Int p.v.cm am),.sy (.imm p.v.cth 18 Ke p.v.ct aD)]])) .leaf) (some (o_A p.q p.N p.me)) (.node .leaf (some (.kmap true true false Int p.v.gt am cF)) .leaf)) 4) true)):=nE (nat:=yc) IP fun p K hpre hK=>by
 dsimp only at hpre hK ⊢
 obtain⟨g1,g2,g3⟩:=hpre
 have nnr:=trivial
 have yg {g:Prop} (h:g:=by first|(first|(constructor<;>omega)|(have e:=(by assumption:_∧_);rw[e.1,e.2];constructor<;>omega)|(have h3:=hq.held _ (by assumption);constructor<;>omega)|(have h3:=hq.held _ (by assumption);have e:=hi;rw[e.1,e.2];constructor<;>omega))|fail):g:=h
 have yp {g:Prop} (h:g:=by first|(first|exact akf (by assumption) (by assumption:_=gZ _ _ _∧_).1 (hi).1 rfl|exact ahh (by assumption) (by assumption:_=gZ _ _ _∧_).1 (hi).1 (by have e:=(by assumption:_=p.v.cm∧_=p.v.ct);rw[←e.1,←e.2];rfl))|fail):g:=h
 have yq {g:Prop} (h:g:=by first|(refine cb (.mk _ _ (.mk _ _ _ _ _ _ _ _ [] _ _ _ _ _ _ [] ..) ..) (h:= ?_);exact wo)|(refine cb (.mk _ _ (.mk _ _ _ _ _ _ _ _ [] _ _ _ _ [] _ [] _ [] ..) ..) (h:= ?_);exact wo)|fail):g:=h
 exact wz
noncomputable def Bd:NN:=iV yc XV [(0,4)] [0,2,3,4,6,10,11,12,13,14,15,16,17,18,19,20]
noncomputable def Ie (M:T) (i r:Nat):Bool:=match M.get i with
 |some (.blk _ _ _ (el::_))=>match bS el r with
  |some (.int _ _)=>true
  |_=>false
 |_=>false
noncomputable def Om (a:Bool):Bool:=Bool.rec true false a
def bM (now:Int) (s:St) (N:Int) (m:List Int) (l:List Ke):St:=
 if s.me∈m then {s with N:=N,m:=m,log:=l,ba:=l.length,com:=l.length,sh:=false,hs:=m.map fun y=>(y,(l.length:Int)),prm:=0,aa:=0,av:=([],[]),q:=none,sa:=0,se:=N,su:=s.su.filter fun x=>decide (x∈m),go:=s.go.filter fun x=>decide (x∈m),jo:=s.jo.filter fun x=>decide (¬x∈m),wa:=false,tr:=now+2}
 else {N:=0,m:=[],log:=[],ba:=0,com:=0,sh:=false,hs:=[],prm:=0,aa:=0,av:=([],[]),q:=none,sa:=0,me:=s.me,met:=s.met,su:=s.su,jo:=s.jo,go:=s.go,wa:=s.wa,se:=N,ro:=s.ro,tr:=s.tr,was:=if 0<s.N then s.log else s.was,wc:=if 0<s.N then s.com else s.wc}
structure kF (s:St):Prop where
 se0:0≤s.se
 se1:s.se<4294967295
 me:0≤s.me∧s.me<8
 su:NL s.su
 jo:NL s.jo
 go:NL s.go
 met:NL s.met
 was:bV s.was
 wasl:s.was.length≤400
theorem aar {s:Si} {q:Option Pq} {now N:Int} {m:List Int} {l w:List Ke} {h:Value} (hm:¬s.me∈m) (hN:0<s.N) (hw:w=s.log):(⟨s.me,s.th,s.met,s.su,s.jo,s.go,s.wa,N,s.ro,s.tr,h,w,s.be,s.com⟩:So).er=bM now (s.er q) N m l:=by
 unfold bM
 rw[if_neg (show¬(s.er q).me∈m from hm),if_pos (show 0<(s.er q).N from hN),if_pos (show 0<(s.er q).N from hN),hw]
 rfl
theorem aaq {s:So} {now N:Int} {m:List Int} {l w:List Ke} {h:Value} (hm:¬s.me∈m) (hw:w=s.was):(⟨s.me,s.th,s.met,s.su,s.jo,s.go,s.wa,N,s.ro,s.tr,h,w,s.be,s.wc⟩:So).er=bM now s.er N m l:=by
 unfold bM
 rw[if_neg (show¬s.er.me∈m from hm),hw]
 rfl
theorem Jr {s z:St} {now N:Int} {m:List Int} {l:List Ke} (hm:s.me∈m) (h:z={s with N:=N,m:=m,log:=l,ba:=l.length,com:=l.length,sh:=false,hs:=m.map fun y=>(y,(l.length:Int)),prm:=0,aa:=0,av:=([],[]),q:=none,sa:=0,se:=N,su:=s.su.filter fun x=>decide (x∈m),go:=s.go.filter fun x=>decide (x∈m),jo:=s.jo.filter fun x=>decide (¬x∈m),wa:=false,tr:=now+2}):z=bM now s N m l:=by
 unfold bM
 rw[if_pos hm,h]
noncomputable def ft_vclnG':NV (aB [] [] [] 0x2bf7bd43a69ea90bba38ae3a32e9050d2a58f3c3002415b81e863fc8684b):=⟨_,by conv=>rhs;reduce⟩
noncomputable abbrev Qc:XF:=ft_vclnG'.1
theorem DM:aK Tryz.prog 38 Qc=true:=by kernel_rfl
structure abo where
 N:Int
 mh:Value
 m:List Int
structure aaC where
 mh:Value
theorem Oz:aA Tryz.prog 38 0 (aO (fun p:abo=>([lU p.N p.mh p.m],.leaf,0)) (fun p=>p.m.length≤1000000) (fun p K=>aj fun r:aaC=>K (lU p.N r.mh p.m) .leaf 0)):=nE (nat:=Bd) DM fun p K hpre hK=>by
 dsimp only at hpre hK ⊢
 have h1:=hpre
 have nnx:=trivial
 have ys {g:Prop} (h:g:=by first|(first|rfl|exact(by assumption:_=p.m∧_).1)|fail):g:=h
 have yq {g:Prop} (h:g:=by first|(refine wX p.m (by first|exact sd|exact ys) ?_;exact wz)|fail):g:=h
 exact wz
noncomputable def xS:NN:=bY Bd Oz [(0,15)]
noncomputable def ft_clkG':NV (fun e0=>aB [e0] [] [] 0x120eaa4cd697498401a7eaa0efd6af460944b2c353f4fa6590b6e491d8):=⟨_,by conv=>rhs;reduce⟩
noncomputable abbrev Zu:XF:=ft_clkG'.1 (eB 68 18 aD)
theorem IK:aK Tryz.prog 35 Zu=true:=by kernel_rfl
structure ajc where
 h:Value
 l:List Ke
structure aim where
 h:Value
 o:List Ke
theorem XT:aA Tryz.prog 35 0 (aO (fun p:ajc=>([.sy (.imm p.h 18 Ke p.l aD)],.leaf,0)) (fun p=>p.l.length≤1000000) (fun p K=>aj fun r:aim=>iP (r.o=p.l) (K (.sy (.imm r.h 18 Ke r.o aD)) .leaf 0) true)):=nE (nat:=xS) IK fun p K hpre hK=>by
 dsimp only at hpre hK ⊢
 have h1:=hpre
 have nnc:=trivial
 have nnl:=trivial
 have yp {g:Prop} (h:g:=by first|(first|rfl|(have e:p.l=[]:=(by first|assumption|exact hi hc|(apply amo;exact hi hc));rw[e]))|(first|rfl|(have e:p.l=[]:=(by first|assumption|exact hi hc1|(apply amo;exact hi hc1));rw[e]))|fail):g:=h
 have ye {g:Prop} (h:g:=by first|(exact cR hK (.mk _ [] ..))|fail):g:=h
 exact wz
noncomputable def AZ:NN:=bY xS XT [(0,23)]
noncomputable def ft_adopti':NV (fun e0 e1=>aB [e0,e1] [] [] 0x1454d26273c90f5bbfb223b052a84cf2301294097032387a5cee60a4c1f16988aea4cfadb914ae4f671e33e70b5f187b95e90879a758697c4220052ca8c40e43a1e9a17ed76f855a85972b287c6454f893afc3072989d7c252b3d1a6fdd73d77647094576b2b570b70cddc329ce8a3d6490e887a1037941dfb00da1b3b3b860dfb906e16a50be145a7c43f6a559287353b959ebc4aae380f219c59ab93fdb2aeac6629c420a6b3401c861e40af4aef9fd3bc7fc4018eb877059a246a796cf57bef3e18c2dd278c7334e049c072e5262f503ff81c9da1563973abea26db8ab33b0b6b53):=⟨_,by conv=>rhs;reduce⟩
noncomputable abbrev Mi:XF:=ft_adopti'.1 (eC 52 2 am) (eC 68 18 aD)
theorem qD:aK Tryz.prog 46 Mi=true:=by kernel_rfl
structure SQ where
 fq:Nat→Value
 s:Si
 now:Int
 vn:Int
 vh:Value
 vl:List Int
 eh:Value
 el:List Ke
structure Sf where
 s:Si
structure Ni where
 s:So
theorem KO:aA Tryz.prog 46 1 (aO (fun p:SQ=>([.ptr 0 0,.sy (.int 0 p.now),lU p.vn p.vh p.vl,.sy (.imm p.eh 18 Ke p.el aD)],(.node (.node (.node (.node .leaf (some (bu p.s.log)) .leaf) (some (aE p.s.su)) .leaf) (some (ce p.s.N p.s.rh p.s.m p.s.me 7 p.s.log.length p.s.ba p.s.com (p.s.sh=true) 8)) (.node .leaf (some (aE p.s.go)) .leaf)) (some (.blk false 86 21 [[.int 1 (.ofNat 0),.sy (.int 3 p.s.N),.sy (.imm p.s.mh 2 Int p.s.m am),.ptr 1 0,.ptr 2 0,hv (p.fq 5),.sy (.int 0 p.s.sa),.int 1 (.ofNat 0),.sy (.int 1 p.s.me),.int 2 (.ofNat 1),.sy (.imm p.s.th 2 Int p.s.met am),.sy (.prow 3 p.s.su.length),.sy (.prow 4 p.s.jo.length),.sy (.prow 5 p.s.go.length),.sy (.bool (p.s.wa=true)),.sy (.int 3 p.s.se),.sy (.int 3 p.s.ro),.sy (.int 0 p.s.tr),.sy (.imm p.s.wh 18 Ke p.s.was aD),.sy (.prow 6 p.s.be.length),.sy (.int 0 p.s.wc)]])) (.node (.node (.node .leaf (some (.kmap true true false (Int×Int) p.s.hs aX aW)) .leaf) (some (aE p.s.jo)) .leaf) (some (eX p.s.prm p.s.aa p.s.avh p.s.av p.s.ath p.s.atl)) (.node .leaf (some (iy p.s.be)) .leaf))),9)) (fun p=>bz (p.s.er none)∧0≤p.now∧p.now≤1000000000∧NL p.vl∧¬p.vl=[]∧0<p.vn∧p.vn<4294967295∧p.el.length≤400∧p.s.se<p.vn∧(p.s.be.length:Int)≤p.s.se∧0<p.s.N) (fun p K=>ae (aj fun r:Sf=>iP (p.s.me∈p.vl∧(r.s.er none)=bM p.now (p.s.er none) p.vn p.vl p.el∧(r.s.be.length:Int)≤r.s.se∧0<r.s.N) (K (.tup []) (dv r.s r.s r.s) 9) true) (aj fun r:Ni=>iP (¬p.s.me∈p.vl∧r.s.er=bM p.now (p.s.er none) p.vn p.vl p.el∧(r.s.be.length:Int)≤r.s.se) (K (.tup []) (di r.s) 5) true))):=nE (nat:=AZ) qD fun p K hpre hK=>by
 dsimp only at hpre hK ⊢
 obtain⟨hK0,hKr0⟩:=ac hK
 have hK1:=hKr0
 obtain⟨hs,n1,n2,v1,v2,v3,v4,e1,s1,b1⟩:=hpre
 have hm:=ah v1
 have hl_:=hs.r.len
 have mb:=hs.r.nl.2 _ hs.r.me
 dsimp only[Si.er]at hl_ mb
 have g3:=hs.sa0
 have g4:=hs.sa1
 have hm:=ah hs.r.nl
 have g5:=hs.r.nl
 have g6:=List.ne_nil_of_mem hs.r.me
 have g7:=hs.n0
 have g8:=hs.n1
 have g9:=ah hs.su
 have g10:=ah hs.go
 have g11:=ah hs.jo
 have g12:=hs.jo.2
 have g13:=hs.tr0
 have g14:=hs.tr1
 dsimp only[Si.er]at g3 g4 hm g5 g6 g7 g8 g9 g10 g11 g12 g13 g14
 have nnx:=trivial
 have nnr:=trivial
 have nnq:=trivial
 have ys {g:Prop} (h:g:=by first|(simp[bR];omega;done)|fail):g:=h
 have yd {g:Prop} (h:g:=by first|(exfalso;omega)|fail):g:=h
 have yg {g:Prop} (h:g:=by first|(first|omega|(simp only[ami,amr];omega))|(exact⟨by assumption,by assumption,by first|assumption|omega,by first|assumption|exact Classical.not_not.1 (by assumption),by omega⟩)|(first|exact⟨by omega,by omega⟩|assumption)|fail):g:=h
 have yp {g:Prop} (h:g:=by first|(first|(exfalso;omega)|(refine⟨Classical.not_not.1 (by assumption),Jr (Classical.not_not.1 (by assumption)) ?_,by simp only[al2,al3,al5];omega,v3⟩;simp only[Si.er,So.er, *]))|(first|(exfalso;omega)|exact⟨by assumption,aar (by assumption) (by omega) (by first|(rw[List.take_length];exact(hi).1)|(rw[List.take_of_length_le (amj _)];exact(hi).1)),by omega⟩)|fail):g:=h
 have yz {g:Prop} (h:g:=by first|(simp[bR];omega;done)|fail):g:=h
 have ye {g:Prop} (h:g:=by first|(exact cR hK0 (.mk (.mk _ _ _ _ _ _ _ _ _ _ _ _ [] _ [] ..) ..))|(exact cR hK1 (.mk (.mk _ _ _ _ _ _ _ _ _ _ _ [] ..) ..))|fail):g:=h
 have yq {g:Prop} (h:g:=by first|(refine wX [(.mk ..)] (by first|exact sd|exact ys) ?_;exact wz)|fail):g:=h
 exact wz
noncomputable def uQ:NN:=gj AZ KO [(0,4),(1,20),(2,15),(3,23)] (fun us M=>Om (Ie M 0 1))
structure SP where
 s:So
 now:Int
 vn:Int
 vh:Value
 vl:List Int
 eh:Value
 el:List Ke
structure Se where
 s:Si
structure Nh where
 s:So
theorem KN:aA Tryz.prog 46 1 (aO (fun p:SP=>([.ptr 0 0,.sy (.int 0 p.now),lU p.vn p.vh p.vl,.sy (.imm p.eh 18 Ke p.el aD)],(di p.s),5)) (fun p=>kF p.s.er∧0≤p.now∧p.now≤1000000000∧NL p.vl∧¬p.vl=[]∧0<p.vn∧p.vn<4294967295∧p.el.length≤400∧p.s.se<p.vn∧(p.s.be.length:Int)≤p.s.se) (fun p K=>ae (aj fun r:Se=>iP (p.s.me∈p.vl∧(r.s.er none)=bM p.now p.s.er p.vn p.vl p.el∧(r.s.be.length:Int)≤r.s.se∧0<r.s.N) (K (.tup []) (dv r.s r.s r.s) 9) true) (aj fun r:Nh=>iP (¬p.s.me∈p.vl∧r.s.er=bM p.now p.s.er p.vn p.vl p.el∧(r.s.be.length:Int)≤r.s.se) (K (.tup []) (di r.s) 5) true))):=nE (nat:=uQ) qD fun p K hpre hK=>by
 dsimp only at hpre hK ⊢
 obtain⟨hK0,hKr0⟩:=ac hK
 have hK1:=hKr0
 obtain⟨hs,n1,n2,v1,v2,v3,v4,e1,s1,b1⟩:=hpre
 have hm:=ah v1
 have mb:=hs.me
 have g9:=ah hs.su
 have g10:=ah hs.go
 have g11:=ah hs.jo
 have g3:=hs.se0
 have g4:=hs.wasl
 dsimp only[So.er]at mb g3 g4 g9 g10 g11
 have nnx:=trivial
 have nnr:=trivial
 have nnq:=trivial
 have ys {g:Prop} (h:g:=by first|(simp[bR];omega;done)|fail):g:=h
 have yd {g:Prop} (h:g:=by first|(exfalso;omega)|fail):g:=h
 have yg {g:Prop} (h:g:=by first|(exact⟨by assumption,by assumption,by first|assumption|omega,by first|assumption|exact Classical.not_not.1 (by assumption),by omega⟩)|(first|exact⟨by omega,by omega⟩|assumption)|fail):g:=h
 have yp {g:Prop} (h:g:=by first|(first|(exfalso;omega)|(refine⟨Classical.not_not.1 (by assumption),Jr (Classical.not_not.1 (by assumption)) ?_,by simp only[al2,al3,al5];omega,v3⟩;simp only[Si.er,So.er, *]))|(first|(exfalso;omega)|exact⟨by assumption,aaq (by assumption) (by first|exact hi|rfl),by omega⟩)|fail):g:=h
 have yz {g:Prop} (h:g:=by first|(simp[bR];omega;done)|fail):g:=h
 have ye {g:Prop} (h:g:=by first|(exact cR hK0 (.mk (.mk _ _ _ _ _ _ _ _ _ _ _ _ [] _ [] ..) ..))|(exact cR hK1 (.mk (.mk _ _ _ _ _ _ _ _ _ _ _ [] ..) ..))|fail):g:=h
 have yq {g:Prop} (h:g:=by first|(refine wX [(.mk ..)] (by first|exact sd|exact ys) ?_;exact wz)|fail):g:=h
 exact wz
noncomputable def kL:NN:=gj uQ KN [(0,4),(1,20),(2,15),(3,23)] (fun us M=>Ie M 0 1)
structure PQOk (s:St) (v:Pq):Prop where
 b0:0<v.b
 b1:v.b<18446744073709551616
 ph0:0≤v.ph
 ph1:v.ph≤2
 nd:v.gt.Nodup
 sub:∀x∈v.gt,x∈s.m
 best0:0≤v.best
 best1:v.best<18446744073709551616
 qt:(v.qt.length:Int)≤400 - s.ba
 qtk:bV v.qt
 held:∀u,v.held=some u→NL u.1∧¬u.1=[]∧bV u.2∧(u.2.length:Int)≤400 - s.ba
 ch:(v.ph=0∧v.ch=([],[]))∨(¬v.ph=0∧NL v.ch.1∧¬v.ch.1=[]∧bV v.ch.2∧(v.ch.2.length:Int)≤400 - s.ba)
 avl:¬s.aa=0→(s.av.2.length:Int)≤400 - s.ba
theorem PQOk.chl {s:St} {v:Pq} (h:PQOk s v) (hb:0≤s.ba):v.ch.1.length≤8∧v.ch.2.length≤400:=by
 rcases h.ch with⟨_,e⟩|⟨_,e1,_,_,e2⟩
 ·rw[e];simp
 ·exact⟨ah e1,by omega⟩
theorem PQOk.qok {s:Si} {v:Qi} (hs:bz (s.er none)) (h:PQOk (s.er none) v.er):QOk s.m v.ph v.gt v.held v.qt v.cm v.ct:=by
 have hb:=hs.r.ba0
 have hq:=h.qt
 have hc:=h.chl hb
 dsimp only[Si.er,Qi.er]at hb hq hc
 refine⟨hs.r.nl,List.ne_nil_of_mem hs.r.me,h.nd,h.sub,by omega,fun u hu=> ?_,by omega,hc.2⟩
 have e:=h.held (u.m,u.t) (by show v.held.map Vl.er=_;rw[hu];rfl)
 have e1:=ah e.1
 have e2:=e.2.2.2
 dsimp only[Si.er]at e1 e2
 omega
def gR (now:Int) (s:St) (v:Pq):St×List (Int×Mx):=
 (bM now s (s.N+1) v.ch.1 (s.log.take s.ba.toNat++v.ch.2),cB s.me {aF 10 with vn:=s.N+1,vl:=v.ch.1,l:=s.log.take s.ba.toNat++v.ch.2} s.m++cB s.me {aF 10 with vn:=s.N+1,vl:=v.ch.1,l:=s.log.take s.ba.toNat++v.ch.2} (v.ch.1.filter fun x=>decide (¬x∈s.m)))
theorem ju {α:Type} {a b:List α} (h:b=[]):a=a++b:=by rw[h,List.append_nil]
theorem aj7 {l o ct:List Ke} {n:Nat} (h:o=l) (hc:ct=[]):o.take n=l.take n++ct:=by rw[h,hc,List.append_nil]
theorem aj8 {l o ct:List Ke} {n:Nat} (h:o=l) (hn:n+ct.length≤o.length):(o.take n++ct++o.drop (n+ct.length)).take (n+ct.length)=l.take n++ct:=by
 rw[List.take_append_of_le_length (by rw[al2,ami];omega),List.take_of_length_le (by rw[al2,ami];omega),h]
theorem ZM {now:Int} {s:Si} {v:Qi} {z:St} {o o1 o2:List Ou} {l:List Ke} {m1:Mg} {k:List Int} (hl:l=s.log.take s.ba.toNat++v.ct) (hz:z=bM now (s.er none) (s.N+1) v.cm l) (h1:o1.map Ou.er=cB z.me m1.er s.m) (h2:o2.map Ou.er=cB z.me m1.er k) (hk:k=v.cm.filter fun x=>decide (¬x∈s.m)) (hm:m1.er={aF 10 with vn:=s.N+1,vl:=v.cm,l:=l}) (ho:o=o1++o2):(z,o.map Ou.er)=gR now (s.er none) v.er:=by
 have hme:z.me=s.me:=by
  rw[hz]
  unfold bM
  split<;>rfl
 subst ho
 rw[amg,h1,h2,hk,hm,hme,hz,hl]
 rfl
noncomputable def bd_d1G':NV (df [] [] [] 0x683cfa7ceacd2a70705a391588b40dd83783fe56057a0bbdf817f2f27611dc9518cea999b4b14ee601d5bdd151480fb66cb56b4dbd17c31d88da78a347ace0a750ba5a8bbd926376a199ee3348cd9240b12e686ba03aef1822e33f5ba8376a5a54efd36f74e2e49dcdea5fceea9202b46e295fcc0efda86db45235acd9f82b7a22e1161afc880dd68c4f34db0d2333569094f2884f9a0339ef623ddd19af59e1cc04c6b9d822442c9ba1bc4819bff5061585a45a4f563b92791cd3ae7a389f0ed88d3e417901427757f08dea9358d9343c082d6622e8ae9e49119e8163d1db15f17486606f48c68abb76f713a7ad9dad241a31d6f4244256118186460823991d76acf7727156cc08a80a2bcbfd51720c94440c25db3177f26eb4064764a3a5a6698a1a3be711c92d405b2c5357002a54fdb7f5baf8552d3ab631a9c9f0eee93a5a1f49f74ee4b9e75d2fe9362ff9ae7c0d87b839948cf6cdc41cbaa9c538341a0e7bea1af17f61344ca3d5f2):=⟨_,by conv=>rhs;reduce⟩
noncomputable abbrev MN:XC:=bd_d1G'.1
noncomputable def bd_d2G':NV (df [] [] [] 0x21f887e188b87d201dbd94cb0d27832717d68a7d561efda47cdbe785bbd3411e0bf96457a80f7e33cb66e7c69035af6c169c7e13a5d6):=⟨_,by conv=>rhs;reduce⟩
noncomputable abbrev MM:XC:=bd_d2G'.1
noncomputable def ft_decG':NV (fun e0 e1 b0 b1=>aB [e0,e1] [] [b0,b1] 0x3b12965276197cc4db9dc7917a98d9a113aa449b3148dee9df5f45cd9412fea0941093468bd994979d356a2b9bf8e052699424239a76159c3500fb4bb84c1e176295bf94f2e8c84f2e57359d5665f39ad530cc2d293a485d3dd76eb2c9e34329e11748f700aac31b75621efef9786f4c19deccbdcaf35a8eae1569f84f7bde0fb9846e5b9309cce3b34fd6bb415e81ad79a91b2eb053793551133e45a2b2ad8f864):=⟨_,by conv=>rhs;reduce⟩
noncomputable abbrev Zt:XF:=ft_decG'.1 (eC 52 2 am) (eC 68 18 aD) MN MM
theorem IJ:aK Tryz.prog 135 Zt=true:=by kernel_rfl
structure akY where
 s:Si
 v:Qi
 now:Int
 mh:Value
 th:Value
structure akz where
 lh:Value
 l:List Ke
structure akZ where
 s:Si
 v:Qi
 now:Int
structure akA where
 mh:Value
 th:Value
noncomputable def FF:bN:=cq (cq bT 2 (fun p:akY=>((.cons 7 (.ptr 3 0) (.cons 6 (.ptr 2 0) (.cons 5 (.ptr 1 0) (.cons 1 (.sy (.int 0 p.now)) (.cons 0 (.ptr 0 0) .nil))))),(.node (.node (.node (.node .leaf (some (aE p.s.su)) .leaf) (some (da (p.s.N+(1:Int)) p.mh p.v.cm)) (.node .leaf (some (bu p.s.log)) .leaf)) (some (.blk false 130 2 [[.sy (.imm p.mh 2 Int p.v.cm am),.sy (.imm p.th 18 Ke p.v.ct aD)]])) (.node (.node .leaf (some (aE p.s.go)) .leaf) (some (eX p.s.prm p.s.aa p.s.avh p.s.av p.s.ath p.s.atl)) (.node .leaf (some (.kmap true true false Int p.v.gt am cF)) .leaf))) (some (qf p.s.N p.s.mh p.s.m 4 5 6 p.s.sa p.s.me p.s.th p.s.met 7 p.s.su.length 8 p.s.jo.length 9 p.s.go.length (p.s.wa=true) p.s.se p.s.ro p.s.tr p.s.wh p.s.was 10 p.s.be.length p.s.wc)) (.node (.node (.node .leaf (some (aE p.s.jo)) .leaf) (some (ce p.s.N p.s.rh p.s.m p.s.me 11 p.s.log.length p.s.ba p.s.com (p.s.sh=true) 12)) (.node .leaf (some (.kmap true true false (Int×Int) p.s.hs aX aW)) .leaf)) (some (da p.s.N p.s.mh p.s.m)) (.node (.node .leaf (some (iy p.s.be)) .leaf) (some (.blk false 161 11 [[.int 1 (.ofNat 0),.sy (.int 3 p.s.N),.sy (.imm p.v.qh 2 Int p.s.m am),.sy (.int 4 p.v.b),.sy (.int 0 p.v.ph),.map 13,.sy (.int 4 p.v.best),.sy (.vl p.v.hh true Vl p.v.held cO),.sy (.imm p.v.qth 18 Ke p.v.qt aD),.sy (.imm p.v.cmh 2 Int p.v.cm am),.sy (.imm p.v.cth 18 Ke p.v.ct aD)]])) .leaf))),14)) (fun p=>ROk p.s.m p.s.me p.s.log p.s.ba p.s.com p.s.hs∧(p.v.ct.length:Int)≤400 - p.s.ba) (fun p K=>aj fun r:akz=>iP (r.l=p.s.log.take p.s.ba.toNat++p.v.ct) (K 0 (.cons 8 (.sy (.imm r.lh 18 Ke r.l aD)) (.cons 7 (.ptr 2 0) (.cons 6 (.ptr 1 0) (.cons 1 (.sy (.int 0 p.now)) (.cons 0 (.ptr 0 0) .nil))))) (.node (.node (.node (.node .leaf (some (aE p.s.jo)) .leaf) (some (ce p.s.N p.s.rh p.s.m p.s.me 10 p.s.log.length p.s.ba p.s.com (p.s.sh=true) 11)) (.node .leaf (some (.kmap true true false (Int×Int) p.s.hs aX aW)) .leaf)) (some (da p.s.N p.s.mh p.s.m)) (.node (.node .leaf (some (iy p.s.be)) .leaf) (some (.blk false 161 11 [[.int 1 (.ofNat 0),.sy (.int 3 p.s.N),.sy (.imm p.v.qh 2 Int p.s.m am),.sy (.int 4 p.v.b),.sy (.int 0 p.v.ph),.map 12,.sy (.int 4 p.v.best),.sy (.vl p.v.hh true Vl p.v.held cO),.sy (.imm p.v.qth 18 Ke p.v.qt aD),.sy (.imm p.v.cmh 2 Int p.v.cm am),.sy (.imm p.v.cth 18 Ke p.v.ct aD)]])) .leaf)) (some (qf p.s.N p.s.mh p.s.m 3 4 5 p.s.sa p.s.me p.s.th p.s.met 6 p.s.su.length 7 p.s.jo.length 8 p.s.go.length (p.s.wa=true) p.s.se p.s.ro p.s.tr p.s.wh p.s.was 9 p.s.be.length p.s.wc)) (.node (.node (.node .leaf (some (aE p.s.go)) .leaf) (some (eX p.s.prm p.s.aa p.s.avh p.s.av p.s.ath p.s.atl)) (.node .leaf (some (.kmap true true false Int p.v.gt am cF)) .leaf)) (some (da (p.s.N+(1:Int)) p.mh p.v.cm)) (.node (.node .leaf (some (bu p.s.log)) .leaf) (some (aE p.s.su)) .leaf))) 13) true)) 1 (fun p:akZ=>((.cons 1 (.sy (.int 0 p.now)) (.cons 0 (.ptr 0 0) .nil)),(du p.s p.s p.s p.s p.v),11)) (fun p=>p.v.cm.length≤1000∧p.v.ct.length≤400) (fun p K=>aj fun r:akA=>K 0 (.cons 6 (.ptr 2 0) (.cons 5 (.ptr 1 0) (.cons 1 (.sy (.int 0 p.now)) (.cons 0 (.ptr 0 0) .nil)))) (.node (.node (.node (.node .leaf (some (aE p.s.jo)) .leaf) (some (ce p.s.N p.s.rh p.s.m p.s.me 10 p.s.log.length p.s.ba p.s.com (p.s.sh=true) 11)) (.node .leaf (some (.kmap true true false (Int×Int) p.s.hs aX aW)) .leaf)) (some (.blk false 130 2 [[.sy (.imm r.mh 2 Int p.v.cm am),.sy (.imm r.th 18 Ke p.v.ct aD)]])) (.node (.node .leaf (some (iy p.s.be)) .leaf) (some (.blk false 161 11 [[.int 1 (.ofNat 0),.sy (.int 3 p.s.N),.sy (.imm p.v.qh 2 Int p.s.m am),.sy (.int 4 p.v.b),.sy (.int 0 p.v.ph),.map 12,.sy (.int 4 p.v.best),.sy (.vl p.v.hh true Vl p.v.held cO),.sy (.imm p.v.qth 18 Ke p.v.qt aD),.sy (.imm p.v.cmh 2 Int p.v.cm am),.sy (.imm p.v.cth 18 Ke p.v.ct aD)]])) .leaf)) (some (qf p.s.N p.s.mh p.s.m 3 4 5 p.s.sa p.s.me p.s.th p.s.met 6 p.s.su.length 7 p.s.jo.length 8 p.s.go.length (p.s.wa=true) p.s.se p.s.ro p.s.tr p.s.wh p.s.was 9 p.s.be.length p.s.wc)) (.node (.node (.node .leaf (some (aE p.s.go)) .leaf) (some (eX p.s.prm p.s.aa p.s.avh p.s.av p.s.ath p.s.atl)) (.node .leaf (some (.kmap true true false Int p.v.gt am cF)) .leaf)) (some (da p.s.N p.s.mh p.s.m)) (.node (.node .leaf (some (bu p.s.log)) .leaf) (some (aE p.s.su)) .leaf))) 13)
theorem afS:bj Tryz.prog 70 1 FF false 1 MN:=lP (nat:=kL) cy (fun _ _ _ _=>rfl) fun p K hpre hK=>by
 dsimp only at hpre hK ⊢
 obtain⟨q1,q2⟩:=hpre
 have nnr:=trivial
 have ys {g:Prop} (h:g:=by first|(first|exact(by assumption:_=p.v.cm∧_=p.v.ct).1|exact(by assumption:_=p.v.cm∧_=p.v.ct).2)|fail):g:=h
 have yg {g:Prop} (h:g:=by first|(first|(constructor<;>omega)|(have e:=(by assumption:_∧_);rw[e.1,e.2];constructor<;>omega)|(have h3:=hq.held _ (by assumption);constructor<;>omega)|(have h3:=hq.held _ (by assumption);have e:=hi;rw[e.1,e.2];constructor<;>omega))|fail):g:=h
 have yz {g:Prop} (h:g:=by first|(first|exact(by assumption:_=p.v.cm∧_=p.v.ct).1|exact(by assumption:_=p.v.cm∧_=p.v.ct).2)|fail):g:=h
 have yq {g:Prop} (h:g:=by first|(refine wX p.v.cm (by first|exact sd|exact ys) ?_;exact wz)|(refine wX p.v.ct (by first|exact sd|exact ys) ?_;exact wz)|fail):g:=h
 exact wz
theorem afR:bj Tryz.prog 70 1 FF false 2 MM:=lP (nat:=kL) cy (fun _ _ _ _=>rfl) fun p K hpre hK=>by
 dsimp only at hpre hK ⊢
 obtain⟨hr,q2⟩:=hpre
 have q3:=hr.ba0
 have q4:=hr.ba1
 have q5:=hr.len
 have nnx:=trivial
 have nnr:=trivial
 have nnl:=trivial
 have ys {g:Prop} (h:g:=by first|(first|omega|(simp;done)|(simp;omega);done)|(first|omega|(simp only[al2,ami,amr];omega);done)|fail):g:=h
 have yg {g:Prop} (h:g:=by first|(first|omega|(simp only[ami,amr];omega))|fail):g:=h
 have yp {g:Prop} (h:g:=by first|(first|exact aj7 hi.1 (by assumption)|exact aj8 hi.1 (by omega)|(rw[hi.1]))|fail):g:=h
 have yq {g:Prop} (h:g:=by first|(refine wX p.v.ct (by first|exact sd|exact ys) ?_;exact wz)|fail):g:=h
 exact wz
structure ajb where
 s:Si
 v:Qi
 now:Int
structure ail where
 s:Si
 o:List Ou
structure abb where
 s:So
 o:List Ou
theorem XS:aA Tryz.prog 135 1 (aO (fun p:ajb=>([.ptr 0 0,.sy (.int 0 p.now)],(du p.s p.s p.s p.s p.v),11)) (fun p=>bz (p.s.er none)∧PQOk (p.s.er none) p.v.er∧((p.s.be.length:Int)≤p.s.se∧0<p.s.N)∧0≤p.now∧p.now≤1000000000∧p.v.ph=2∧p.s.N+1<4294967295) (fun p K=>ae (aj fun r:ail=>iP (((r.s.er none),r.o.map Ou.er)=gR p.now (p.s.er none) p.v.er∧(r.s.be.length:Int)≤r.s.se∧0<r.s.N) (K (.sy (.prow 1 r.o.length)) (fQ r.s r.s r.s r.o) 10) true) (aj fun r:abb=>iP ((r.s.er,r.o.map Ou.er)=gR p.now (p.s.er none) p.v.er∧(r.s.be.length:Int)≤r.s.se) (K (.sy (.prow 1 r.o.length)) (jv r.s r.o) 6) true))):=nF (nat:=kL) IJ (fun b j x h=>(cW afS (fun h=>(cW afR (fun h=>(by cases h)) h)) h)) fun p K hpre hK=>by
 dsimp only at hpre hK ⊢
 obtain⟨hK0,hKr0⟩:=ac hK
 have hK1:=hKr0
 obtain⟨hs,hv,b1,n1,n2,t2,t3⟩:=hpre
 have hq:=PQOk.qok hs hv
 have hl_:=hs.r.len
 have mb:=hs.r.nl.2 _ hs.r.me
 have ba0:=hs.r.ba0
 have ba1:=hs.r.ba1
 have qc:=hq.cm
 have qt_:=hq.ct
 have hse:=hs.se
 have hch:=hv.ch.resolve_left (fun e=>by have e1:=e.1;dsimp only[Qi.er]at e1;omega)
 obtain⟨_,c1,c2,c3,c4⟩:=hch
 dsimp only[Qi.er,Si.er]at hse c1 c2 c3 c4
 have c5:=ah c1
 dsimp only[Si.er]at hl_ mb ba0 ba1
 have g3:=hs.sa0
 have g4:=hs.sa1
 have hm:=ah hs.r.nl
 have g5:=hs.r.nl
 have g6:=List.ne_nil_of_mem hs.r.me
 have g7:=hs.n0
 have g8:=hs.n1
 have g9:=ah hs.su
 have g10:=ah hs.go
 have g11:=ah hs.jo
 have g12:=hs.jo.2
 have g13:=hs.tr0
 have g14:=hs.tr1
 dsimp only[Si.er]at g3 g4 hm g5 g6 g7 g8 g9 g10 g11 g12 g13 g14
 have nnr:=trivial
 have nnl:=trivial
 have ys {g:Prop} (h:g:=by first|(simp[bR];omega;done)|fail):g:=h
 have yg {g:Prop} (h:g:=by first|(exact⟨hs.r,c4⟩)|(first|exact⟨by omega,by omega⟩|assumption)|(exact⟨hs,n1,n2,c1,c2,by omega,by omega,by(have e:=congrArg List.length (by assumption:r1.l=List.take p.s.ba.toNat p.s.log++p.v.ct);simp only[al2,ami]at e;omega),by omega,by omega⟩)|fail):g:=h
 have yp {g:Prop} (h:g:=by first|(exact⟨ZM (by assumption) (by assumption:_∧_=bM _ _ _ _ _∧_).2.1 (by assumption:_=cB _ _ p.s.m∧_).1 (by assumption:_=cB _ _ r2.o∧_).1 (by assumption:r2.o=_∧_).1 rfl (by first|rfl|exact ju (by assumption)),(by assumption:_∧_=bM _ _ _ _ _∧_).2.2⟩)|fail):g:=h
 have yz {g:Prop} (h:g:=by first|(simp[bR];omega;done)|fail):g:=h
 have yq {g:Prop} (h:g:=by first|(refine cb (.mk _ _ (.mk _ _ _ _ _ _ _ _ _ _ _ _ _ [] _ _ _ [] ..) ..) (h:= ?_);exact wo)|(refine wX _ (by first|exact sd|exact ys) ?_;exact wz)|fail):g:=h
 exact wz
noncomputable def tB:NN:=bY kL XS [(0,4),(1,20)]
def dw (now:Int) (s:St) (v:Pq):St×List (Int×Mx):=
 if v.ph=0∧(s.m.length:Int) / 2+1≤(v.gt.length:Int) then
  let c:=dj v.held (bK s.m s.su s.jo s.go) v.qt
  let a:=dc s.m 1 [] s.me
  let w:St×Pq:=if ¬v.b=0∧s.prm≤v.b then ({s with prm:=v.b,aa:=v.b,av:=c},{v with ph:=a.1,gt:=a.2,ch:=c}) else (s,{v with ph:=1,gt:=[],ch:=c})
  if w.2.ph=1 then ({w.1 with q:=some w.2},eu w.1.N w.1.me w.1.m w.2) else if w.2.ph=2 then gR now w.1 w.2 else ({w.1 with q:=some w.2},[])
 else if v.ph=2 then gR now s v else ({s with q:=some v},[])
theorem aeG {m su jo go o cm vm:List Int} {qt ct vt:List Ke} {R:Prop} {h1 h2:Option Vl} (hw:o=bK m su jo go∧NL o) (e:R∧h2=h1∧(cm,ct)=dj (h1.map Vl.er) o qt∧vm=cm∧vt=ct):R∧(cm,ct)=dj (h1.map Vl.er) (bK m su jo go) qt∧vm=cm∧vt=ct∧h2=h1:=by
 rw[←hw.1]
 exact⟨e.1,e.2.2.1,e.2.2.2.1,e.2.2.2.2,e.2.1⟩
theorem Wv {now:Int} {s:Si} {v:Qi} (h1:¬(v.ph=0∧(s.m.length:Int) / 2+1≤(v.gt.length:Int))) (h2:v.ph=2):gR now (s.er none) v.er=dw now (s.er none) v.er:=by
 unfold dw
 rw[if_neg (show¬(v.er.ph=0∧((s.er none).m.length:Int) / 2+1≤(v.er.gt.length:Int)) from h1),if_pos (show v.er.ph=2 from h2)]
theorem Fj {m d add l:List Int} (hm:NL m) (ha:∀x∈add,0≤x∧x<8) (h:jJ m d add=some l):NL l∧¬l=[]:=by
 unfold jJ at h
 dsimp only at h
 split at h
 ·rename_i hq
  obtain rfl:=amp h
  refine⟨ry (iz hm) ha,fun e=> ?_⟩
  rw[e]at hq
  have:(m.filter (fun x=>decide (x∈([]:List Int))))=[]:=by simp
  rw[this]at hq
  simp at hq
 ·cases h
theorem Ez {m su jo go:List Int} (hm:NL m) (hne:¬m=[]) (hj:NL jo):NL (bK m su jo go)∧¬bK m su jo go=[]:=by
 unfold bK
 split
 ·rename_i l h;exact Fj hm hj.2 h
 ·split
  ·rename_i l h;exact Fj hm hj.2 h
  ·exact⟨hm,hne⟩
theorem Ax {s:St} {v:Pq} (hs:bz s) (hv:PQOk s v):NL (dj v.held (bK s.m s.su s.jo s.go) v.qt).1∧¬(dj v.held (bK s.m s.su s.jo s.go) v.qt).1=[]∧bV (dj v.held (bK s.m s.su s.jo s.go) v.qt).2∧((dj v.held (bK s.m s.su s.jo s.go) v.qt).2.length:Int)≤400 - s.ba:=by
 unfold dj
 cases h:v.held with
 |some u=>exact hv.held u h
 |none=>
  have hw:=Ez (su:=s.su) (go:=s.go) hs.r.nl (List.ne_nil_of_mem hs.r.me) hs.jo
  exact⟨hw.1,hw.2,hv.qtk,hv.qt⟩
theorem QOk.next {m:List Int} {ph:Int} {gt:List Int} {h1 h2:Option Vl} {qt:List Ke} {cm c2:List Int} {ct t2:List Ke} (h:QOk m ph gt h1 qt cm ct) (e:h2=h1) (a:c2.length≤1000) (b:t2.length≤400):QOk m 1 [] h2 qt c2 t2:=⟨h.nl,h.ne,.nil,fun x hx=>(by cases hx),h.qt,by rw[e];exact h.held,a,b⟩
theorem Kj {now:Int} {s s1:St} {v w:Pq} {c:List Int×List Ke} (hr:v.ph=0∧(s.m.length:Int) / 2+1≤(v.gt.length:Int)) (hc:c=dj v.held (bK s.m s.su s.jo s.go) v.qt)
  (h:(s1,w)=if ¬v.b=0∧s.prm≤v.b then ({s with prm:=v.b,aa:=v.b,av:=c},{v with ph:=(dc s.m 1 [] s.me).1,gt:=(dc s.m 1 [] s.me).2,ch:=c}) else (s,{v with ph:=1,gt:=[],ch:=c})):
  dw now s v=if w.ph=1 then ({s1 with q:=some w},eu s1.N s1.me s1.m w) else if w.ph=2 then gR now s1 w else ({s1 with q:=some w},[]):=by
 unfold dw
 rw[if_pos hr]
 subst hc
 dsimp only
 rw[←h]
theorem ajx {now:Int} {s:Si} {v:Qi} {x:Value} {h2:Option Vl} {a b c3 d:Value} {cm:List Int} {ct:List Ke} {o:List Ou} (hr:v.ph=0∧(s.m.length:Int) / 2+1≤(v.gt.length:Int)) (hc:(cm,ct)=dj (v.held.map Vl.er) (bK s.m s.su s.jo s.go) v.qt) (hh:h2=v.held) (hb:v.b=0∨v.b<s.prm)
  (ho:o.map Ou.er=eu s.N s.me s.m (⟨v.b,1,[],v.best,x,h2,a,b,v.qt,c3,cm,d,ct⟩:Qi).er):(s.er (some (⟨v.b,1,[],v.best,x,h2,a,b,v.qt,c3,cm,d,ct⟩:Qi).er),o.map Ou.er)=dw now (s.er none) v.er:=by
 subst hh
 rw[Kj (s:=s.er none) (v:=v.er) (s1:=s.er none) (w:=(⟨v.b,1,[],v.best,x,v.held,a,b,v.qt,c3,cm,d,ct⟩:Qi).er) hr hc (by
  rw[if_neg (show¬(¬v.er.b=0∧(s.er none).prm≤v.er.b) from fun q=>by
   have q1:¬v.b=0:=q.1
   have q2:s.prm≤v.b:=q.2
   omega)]
  rfl),if_pos (show(⟨v.b,1,[],v.best,x,v.held,a,b,v.qt,c3,cm,d,ct⟩:Qi).er.ph=1 from rfl),ho]
 rfl
theorem Hx {now:Int} {s:Si} {v:Qi} {av vm cm:List Int} {atl vt ct:List Ke} {h2:Option Vl} {ph:Int} {gt:List Int} (hr:v.ph=0∧(s.m.length:Int) / 2+1≤(v.gt.length:Int)) (hc:(cm,ct)=dj (v.held.map Vl.er) (bK s.m s.su s.jo s.go) v.qt) (hv1:vm=cm) (hv2:vt=ct) (hh:h2=v.held)
  (hb:(¬v.b=0∧s.prm≤v.b)∧av=vm∧atl=vt) (ha:(ph,gt)=dc s.m 1 [] s.me):dw now (s.er none) v.er=if ph=1 then (({s with prm:=v.b,aa:=v.b,avh:=s.avh,av:=av,ath:=s.avh,atl:=atl}:Si).er (some (⟨v.b,ph,gt,v.best,s.avh,h2,s.avh,s.avh,v.qt,s.avh,cm,s.avh,ct⟩:Qi).er),eu s.N s.me s.m (⟨v.b,ph,gt,v.best,s.avh,h2,s.avh,s.avh,v.qt,s.avh,cm,s.avh,ct⟩:Qi).er) else if ph=2 then gR now (({s with prm:=v.b,aa:=v.b,avh:=s.avh,av:=av,ath:=s.avh,atl:=atl}:Si).er none) (⟨v.b,ph,gt,v.best,s.avh,h2,s.avh,s.avh,v.qt,s.avh,cm,s.avh,ct⟩:Qi).er else (({s with prm:=v.b,aa:=v.b,avh:=s.avh,av:=av,ath:=s.avh,atl:=atl}:Si).er (some (⟨v.b,ph,gt,v.best,s.avh,h2,s.avh,s.avh,v.qt,s.avh,cm,s.avh,ct⟩:Qi).er),[]):=by
 obtain⟨hb,e1,e2⟩:=hb
 subst hh;subst hv1;subst hv2;subst e1;subst e2
 rw[Kj (s:=s.er none) (v:=v.er) (s1:=({s with prm:=v.b,aa:=v.b,avh:=s.avh,av:=av,ath:=s.avh,atl:=atl}:Si).er none) (w:=(⟨v.b,ph,gt,v.best,s.avh,v.held,s.avh,s.avh,v.qt,s.avh,av,s.avh,atl⟩:Qi).er) hr hc (by
  rw[if_pos (show¬v.er.b=0∧(s.er none).prm≤v.er.b from hb)]
  have e1:ph=(dc s.m 1 [] s.me).1:=congrArg Prod.fst ha
  have e2:gt=(dc s.m 1 [] s.me).2:=congrArg Prod.snd ha
  rw[e1,e2]
  rfl)]
 rfl
theorem aeB {s:Si} {v:Qi} {avh ath x a b c3 d:Value} {av vm cm:List Int} {atl vt ct:List Ke} {h2:Option Vl} {ph:Int} {gt:List Int} (hs:bz (s.er none)) (hv:PQOk (s.er none) v.er) (hv1:vm=cm) (hv2:vt=ct) (hh:h2=v.held) (hb:(¬v.b=0∧s.prm≤v.b)∧av=vm∧atl=vt) (ha:(ph,gt)=dc s.m 1 [] s.me) (hp:ph=2)
  (k1:NL cm) (k2:¬cm=[]) (k3:bV ct) (k4:(ct.length:Int)≤400 - s.ba):bz (({s with prm:=v.b,aa:=v.b,avh:=avh,av:=av,ath:=ath,atl:=atl}:Si).er none)∧PQOk (({s with prm:=v.b,aa:=v.b,avh:=avh,av:=av,ath:=ath,atl:=atl}:Si).er none) (⟨v.b,ph,gt,v.best,x,h2,a,b,v.qt,c3,cm,d,ct⟩:Qi).er:=by
 obtain⟨hb,e1,e2⟩:=hb
 subst hh;subst hv1;subst hv2;subst e1;subst e2
 have e2:gt=eO s.m 1 [] s.me 1:=congrArg Prod.snd ha
 have hn:=Cz (m:=s.m) (ph:=1) (x:=s.me) (z:=1) (gt:=[]) .nil (fun y hy=>by cases hy)
 rw[←e2]at hn
 have b0:=hs.r.ba0
 have l1:=ah k1
 dsimp only[Si.er]at b0
 refine⟨⟨hs.r,hs.n0,hs.n1,hs.se,hs.su,hs.jo,hs.go,hs.met,hs.log,hs.was,hs.wasl,hs.sa0,hs.sa1,hs.tr0,hs.tr1,hs.ro0,hs.ro1,Int.le_of_lt hv.b0,hv.b1,Int.le_of_lt hv.b0,hv.b1,⟨l1,by show atl.length≤400;omega⟩,fun _=>⟨k1,k2,k3⟩⟩,?_⟩
 exact⟨hv.b0,hv.b1,by show 0≤ph;omega,by show ph≤2;omega,hn.1,hn.2,hv.best0,hv.best1,hv.qt,hv.qtk,hv.held,.inr ⟨by show¬ph=0;omega,k1,k2,k3,k4⟩,fun _=>k4⟩
theorem Ww {s:Si} {v:Qi} {avh ath x a b c3 d:Value} {av vm cm:List Int} {atl vt ct:List Ke} {h2:Option Vl} {ph:Int} {gt:List Int} (hs:bz (s.er none)) (hv:PQOk (s.er none) v.er) (hv1:vm=cm) (hv2:vt=ct) (hh:h2=v.held) (hb:(¬v.b=0∧s.prm≤v.b)∧av=vm∧atl=vt) (ha:(ph,gt)=dc s.m 1 [] s.me) (hp:ph=2)
  (k1:NL cm) (k2:¬cm=[]) (k3:bV ct) (k4:(ct.length:Int)≤400 - s.ba) {R:Prop} (hR:R):bz (({s with prm:=v.b,aa:=v.b,avh:=avh,av:=av,ath:=ath,atl:=atl}:Si).er none)∧PQOk (({s with prm:=v.b,aa:=v.b,avh:=avh,av:=av,ath:=ath,atl:=atl}:Si).er none) (⟨v.b,ph,gt,v.best,x,h2,a,b,v.qt,c3,cm,d,ct⟩:Qi).er∧R:=by
 have q:=aeB (avh:=avh) (ath:=ath) (x:=x) (a:=a) (b:=b) (c3:=c3) (d:=d) hs hv hv1 hv2 hh hb ha hp k1 k2 k3 k4
 exact⟨q.1,q.2,hR⟩
theorem Wu {now:Int} {s:Si} {v:Qi} (h1:¬(v.ph=0∧(s.m.length:Int) / 2+1≤(v.gt.length:Int))) (h2:¬v.ph=2):(s.er (some v.er),([]:List Ou).map Ou.er)=dw now (s.er none) v.er:=by
 unfold dw
 rw[if_neg (show¬(v.er.ph=0∧((s.er none).m.length:Int) / 2+1≤(v.er.gt.length:Int)) from h1),if_neg (show¬v.er.ph=2 from h2)]
 rfl
noncomputable def bd_o1G':NV (df [] [] [] 0x33a294603923bf976afcec2c00cc577830669cdd0b253bdfe390a05eeae5e3936f5b862436a9e53dd0ffdc84097b9acb3ca59d84748e712d0766cdc91813c7ec63581d54e7a4f02db2d43fa54fa96f72bd9da2a7dde06028058f41f61198418f6e47b3fd0be1c004a4f912691652e734070bb5529f45c5fda28c964f477bcd9f):=⟨_,by conv=>rhs;reduce⟩
noncomputable abbrev MJ:XC:=bd_o1G'.1
noncomputable def ft_onG':NV (fun e0 b0=>aB [e0] [] [b0] 0x1f91f0191685f48acc95ebaeea02a118341e2ac8c0b93d47dd7888068065b33533664f1ac3540c5e58d4b3422590a0215688d9b25fc43d9117d449a87008baee69c0cd7ecb1d37293f562b17c7cdadcf9104a841e31f66329d):=⟨_,by conv=>rhs;reduce⟩
noncomputable abbrev ags:XF:=ft_onG'.1 (eB 118 33 cE) MJ
theorem LO:aK Tryz.prog 107 ags=true:=by kernel_rfl
structure akN where
 s:Si
 v:Qi
 now:Int
structure ahO where
 hh:Value
 held:Option Vl
 cmh:Value
 cm:List Int
 cth:Value
 ct:List Ke
 vmh:Value
 vm:List Int
 vth:Value
 vt:List Ke
noncomputable def afB:bN:=cq bT 1 (fun p:akN=>((.cons 1 (.sy (.int 0 p.now)) (.cons 0 (.ptr 0 0) .nil)),(du p.s p.s p.s p.s p.v),11)) (fun p=>bz (p.s.er none)∧PQOk (p.s.er none) p.v.er∧((p.s.be.length:Int)≤p.s.se∧0<p.s.N)) (fun p K=>ae (iP (¬(p.v.ph=0∧(p.s.m.length:Int) / 2+1≤(p.v.gt.length:Int))) (K 0 (.cons 6 (.bool false) (.cons 5 (.ptr 1 0) (.cons 1 (.sy (.int 0 p.now)) (.cons 0 (.ptr 0 0) .nil)))) (.node (.node (.node (.node .leaf (some (aE p.s.go)) .leaf) (some (eX p.s.prm p.s.aa p.s.avh p.s.av p.s.ath p.s.atl)) (.node .leaf (some (.kmap true true false Int p.v.gt am cF)) .leaf)) (some (.blk false 130 2 [[.nilS,.nilS]])) (.node (.node .leaf (some (bu p.s.log)) .leaf) (some (aE p.s.su)) .leaf)) (some (qf p.s.N p.s.mh p.s.m 2 3 4 p.s.sa p.s.me p.s.th p.s.met 5 p.s.su.length 6 p.s.jo.length 7 p.s.go.length (p.s.wa=true) p.s.se p.s.ro p.s.tr p.s.wh p.s.was 8 p.s.be.length p.s.wc)) (.node (.node (.node .leaf (some (iy p.s.be)) .leaf) (some (.blk false 161 11 [[.int 1 (.ofNat 0),.sy (.int 3 p.s.N),.sy (.imm p.v.qh 2 Int p.s.m am),.sy (.int 4 p.v.b),.sy (.int 0 p.v.ph),.map 11,.sy (.int 4 p.v.best),.sy (.vl p.v.hh true Vl p.v.held cO),.sy (.imm p.v.qth 18 Ke p.v.qt aD),.sy (.imm p.v.cmh 2 Int p.v.cm am),.sy (.imm p.v.cth 18 Ke p.v.ct aD)]])) .leaf) (some (ce p.s.N p.s.rh p.s.m p.s.me 9 p.s.log.length p.s.ba p.s.com (p.s.sh=true) 10)) (.node (.node .leaf (some (.kmap true true false (Int×Int) p.s.hs aX aW)) .leaf) (some (aE p.s.jo)) .leaf))) 12) true) (aj fun r:ahO=>iP ((p.v.ph=0∧(p.s.m.length:Int) / 2+1≤(p.v.gt.length:Int))∧(r.cm,r.ct)=dj (p.v.held.map Vl.er) (bK p.s.m p.s.su p.s.jo p.s.go) p.v.qt∧r.vm=r.cm∧r.vt=r.ct∧r.held=p.v.held∧NL r.cm∧¬r.cm=[]∧bV r.ct∧(r.ct.length:Int)≤400 - p.s.ba∧r.vm.length≤8∧r.vt.length≤400∧r.cm.length≤8∧r.ct.length≤400) (K 0 (.cons 6 (.bool true) (.cons 5 (.ptr 1 0) (.cons 1 (.sy (.int 0 p.now)) (.cons 0 (.ptr 0 0) .nil)))) (.node (.node (.node (.node .leaf (some (aE p.s.go)) .leaf) (some (eX p.s.prm p.s.aa p.s.avh p.s.av p.s.ath p.s.atl)) (.node .leaf (some (.kmap true true false Int ([]:List Int) am cF)) .leaf)) (some (.blk false 130 2 [[.sy (.imm r.vmh 2 Int r.vm am),.sy (.imm r.vth 18 Ke r.vt aD)]])) (.node (.node .leaf (some (bu p.s.log)) .leaf) (some (aE p.s.su)) .leaf)) (some (qf p.s.N p.s.mh p.s.m 2 3 4 p.s.sa p.s.me p.s.th p.s.met 5 p.s.su.length 6 p.s.jo.length 7 p.s.go.length (p.s.wa=true) p.s.se p.s.ro p.s.tr p.s.wh p.s.was 8 p.s.be.length p.s.wc)) (.node (.node (.node .leaf (some (iy p.s.be)) .leaf) (some (.blk false 161 11 [[.int 1 (.ofNat 0),.sy (.int 3 p.s.N),.sy (.imm p.v.qh 2 Int p.s.m am),.sy (.int 4 p.v.b),.sy (.int 0 (1:Int)),.map 11,.sy (.int 4 p.v.best),.sy (.vl r.hh true Vl r.held cO),.sy (.imm p.v.qth 18 Ke p.v.qt aD),.sy (.imm r.cmh 2 Int r.cm am),.sy (.imm r.cth 18 Ke r.ct aD)]])) .leaf) (some (ce p.s.N p.s.rh p.s.m p.s.me 9 p.s.log.length p.s.ba p.s.com (p.s.sh=true) 10)) (.node (.node .leaf (some (.kmap true true false (Int×Int) p.s.hs aX aW)) .leaf) (some (aE p.s.jo)) .leaf))) 12) true))
theorem afM:bj Tryz.prog 61 1 afB false 1 MJ:=lP (nat:=tB) cy (fun _ _ _ _=>rfl) fun p K hpre hK=>by
 dsimp only at hpre hK ⊢
 obtain⟨hK0,hKr0⟩:=ac hK
 have hK1:=hKr0
 obtain⟨hs,hv,b1⟩:=hpre
 have hq:=PQOk.qok hs hv
 have g3:=hs.sa0
 have g4:=hs.sa1
 have hm:=ah hs.r.nl
 have g5:=hs.r.nl
 have g6:=List.ne_nil_of_mem hs.r.me
 have g7:=hs.n0
 have g8:=hs.n1
 have g9:=ah hs.su
 have g10:=ah hs.go
 have g11:=ah hs.jo
 have g12:=hs.jo.2
 have g13:=hs.tr0
 have g14:=hs.tr1
 dsimp only[Si.er]at g3 g4 hm g5 g6 g7 g8 g9 g10 g11 g12 g13 g14
 have nnr:=trivial
 have yg {g:Prop} (h:g:=by first|(first|assumption|(refine⟨?_,?_,?_,?_,?_,?_,?_,?_,?_⟩<;>first|assumption|omega))|(first|exact⟨by assumption,by omega⟩|exact⟨by assumption,by(have hq_:=ah (hi).2;omega)⟩|(constructor<;>first|omega|(have h3:=hq.held _ (by assumption);omega)))|fail):g:=h
 have yp {g:Prop} (h:g:=by first|(have e:=aeG (by assumption) hi;have w:=Ax hs hv;have e2:=e.2.1;dsimp only[Qi.er,Si.er]at w;rw[←e2]at w;have w1:=ah w.1;have w2:=w.2.2.2;have b0:=hs.r.ba0;dsimp only[Si.er]at b0 w1 w2;exact⟨e.1,e.2.1,e.2.2.1,e.2.2.2.1,e.2.2.2.2,w.1,w.2.1,w.2.2.1,w2,by rw[e.2.2.1];exact w1,by rw[e.2.2.2.1];omega,w1,by omega⟩)|fail):g:=h
 exact wz
structure akM where
 s:Si
 v:Qi
 now:Int
structure akq where
 s:Si
 v:Qi
 o:List Ou
structure ahN where
 s:Si
 o:List Ou
structure ahM where
 s:So
 o:List Ou
theorem ae9:aA Tryz.prog 107 1 (aO (fun p:akM=>([.ptr 0 0,.sy (.int 0 p.now)],(du p.s p.s p.s p.s p.v),11)) (fun p=>bz (p.s.er none)∧PQOk (p.s.er none) p.v.er∧((p.s.be.length:Int)≤p.s.se∧0<p.s.N)∧0≤p.now∧p.now≤1000000000∧p.s.N+1<4294967295) (fun p K=>ae (aj fun r:akq=>iP (((r.s.er (some r.v.er)),r.o.map Ou.er)=dw p.now (p.s.er none) p.v.er∧(r.s.be.length:Int)≤r.s.se∧0<r.s.N) (K (.sy (.prow 1 r.o.length)) (gU r.s r.s r.s r.s r.v r.o) 12) true) (ae (aj fun r:ahN=>iP (((r.s.er none),r.o.map Ou.er)=dw p.now (p.s.er none) p.v.er∧(r.s.be.length:Int)≤r.s.se∧0<r.s.N) (K (.sy (.prow 1 r.o.length)) (fQ r.s r.s r.s r.o) 10) true) (aj fun r:ahM=>iP ((r.s.er,r.o.map Ou.er)=dw p.now (p.s.er none) p.v.er∧(r.s.be.length:Int)≤r.s.se) (K (.sy (.prow 1 r.o.length)) (jv r.s r.o) 6) true)))):=nF (nat:=tB) LO (dB afM) fun p K hpre hK=>by
 dsimp only at hpre hK ⊢
 obtain⟨hK0,hKr0⟩:=ac hK
 obtain⟨hK1,hKr1⟩:=ac hKr0
 have hK2:=hKr1
 obtain⟨hs,hv,b1,n1,n2,t3⟩:=hpre
 have hq:=PQOk.qok hs hv
 have g3:=hs.sa0
 have g4:=hs.sa1
 have hm:=ah hs.r.nl
 have g5:=hs.r.nl
 have g6:=List.ne_nil_of_mem hs.r.me
 have g7:=hs.n0
 have g8:=hs.n1
 have g9:=ah hs.su
 have g10:=ah hs.go
 have g11:=ah hs.jo
 have g12:=hs.jo.2
 have g13:=hs.tr0
 have g14:=hs.tr1
 dsimp only[Si.er]at g3 g4 hm g5 g6 g7 g8 g9 g10 g11 g12 g13 g14
 have nnr:=trivial
 have yg {g:Prop} (h:g:=by first|(exact⟨hs,hv,b1⟩)|(first|(exfalso;omega)|exact⟨hs,hv,b1,n1,n2,by omega,t3⟩|(have ho_:=(by assumption:(_∧_)∧(_,_)=dj _ _ _∧_);have hb_:=(by assumption:(¬_=(0:Int)∧_)∧_=_∧_=_);have ha_:=(by assumption:(_,_)=dc _ _ _ _);exact Ww (s:=p.s) (v:=p.v) hs hv ho_.2.2.1 ho_.2.2.2.1 ho_.2.2.2.2.1 hb_ ha_ (Classical.not_not.1 (by assumption)) ho_.2.2.2.2.2.1 ho_.2.2.2.2.2.2.1 ho_.2.2.2.2.2.2.2.1 ho_.2.2.2.2.2.2.2.2.1 ⟨b1,n1,n2,Classical.not_not.1 (by assumption),t3⟩))|(first|assumption|exact⟨by omega,by omega⟩)|(refine⟨?_,?_,?_⟩<;>omega)|(first|assumption|exact QOk.next hq (by assumption:_∧_∧_∧_∧r1.held=p.v.held∧_).2.2.2.2.1 (by omega) (by omega))|fail):g:=h
 have yp {g:Prop} (h:g:=by first|(first|(exfalso;omega)|exact⟨Wu (by assumption) (by assumption),by omega⟩|(have ho_:=(by assumption:(_∧_)∧(_,_)=dj _ _ _∧_);exact⟨ajx (s:=p.s) (v:=p.v) ho_.1 ho_.2.1 ho_.2.2.2.2.1 (by assumption) hi,b1⟩)|(have ho_:=(by assumption:(_∧_)∧(_,_)=dj _ _ _∧_);have hb_:=(by assumption:(¬_=(0:Int)∧_)∧_=_∧_=_);have ha_:=(by assumption:(_,_)=dc _ _ _ _);exact⟨by rw[Hx (s:=p.s) (v:=p.v) ho_.1 ho_.2.1 ho_.2.2.1 ho_.2.2.2.1 ho_.2.2.2.2.1 hb_ ha_,if_pos (by assumption)];exact congrArg (Prod.mk _) hi,b1⟩)|(have ho_:=(by assumption:(_∧_)∧(_,_)=dj _ _ _∧_);have hb_:=(by assumption:(¬_=(0:Int)∧_)∧_=_∧_=_);have ha_:=(by assumption:(_,_)=dc _ _ _ _);exact⟨by rw[Hx (s:=p.s) (v:=p.v) ho_.1 ho_.2.1 ho_.2.2.1 ho_.2.2.2.1 ho_.2.2.2.2.1 hb_ ha_,if_neg (by assumption),if_neg (by assumption)]<;>rfl,b1⟩))|(first|(exfalso;omega)|exact⟨(hi).1.trans (Wv (by assumption) (Classical.not_not.1 (by assumption))),(hi).2⟩|(have ho_:=(by assumption:(_∧_)∧(_,_)=dj _ _ _∧_);have hb_:=(by assumption:(¬_=(0:Int)∧_)∧_=_∧_=_);have ha_:=(by assumption:(_,_)=dc _ _ _ _);exact⟨by rw[Hx (s:=p.s) (v:=p.v) ho_.1 ho_.2.1 ho_.2.2.1 ho_.2.2.2.1 ho_.2.2.2.2.1 hb_ ha_,if_neg (by assumption),if_pos (Classical.not_not.1 (by assumption))];exact(hi).1,(hi).2⟩))|fail):g:=h
 have ye {g:Prop} (h:g:=by first|(exact cR hK0 (.mk (.mk ..) (.mk ..) [] ..))|(exact cR hK0 (.mk (.mk ..) (.mk _ _ [] ..) [] ..))|fail):g:=h
 have yq {g:Prop} (h:g:=by first|(refine cb (.mk (.mk ..) (.mk _ _ [] ..) ..) (h:= ?_);exact wo)|(refine cb (.mk _ _ _ _ (.mk _ _ [] p.v.best r1.hh r1.held ..) ..) (h:= ?_);exact wo)|(refine cb (.mk _ _ _ _ (.mk _ _ _ p.v.best r1.hh r1.held ..) ..) (h:= ?_);exact wo)|(refine cb (.mk _ _ _ _ _ [] ..) (h:= ?_);exact wo)|fail):g:=h
 exact wz
end Go.Proofs.Tryz
