/- Definitions and lemmas of the proof, without a condition of their own. -/
import Derived.Test.YtjhpjjbnojbikaaGreatK4
import Derived.KernelRfl
set_option linter.unusedSimpArgs false
set_option linter.unusedVariables false
open List renaming append_assoc→amb,flatten_cons→al8,length_append→al2,length_cons→al3,length_drop→amr,length_map→al4,length_nil→al5,length_take→ami,mem_of_getElem?→al7
open Nat renaming le_refl→amj
open Option.some renaming inj→amp
namespace Go.Proofs.Tryz
open Go Go.RowKit Go.Sy
open Go.Eng hiding aj
set_option maxRecDepth 1000000
set_option linter.unusedVariables false
set_option maxHeartbeats 4000000
attribute [local irreducible] aq
def oB (m:List Int) (me:Int) (su:List Int) (x:Int):List Int:=if x=me then su else eY m su x
theorem EM {m su:List Int} {me x:Int} (h:x=me):su=oB m me su x:=by unfold oB;rw[if_pos h]
theorem kZ {m su l:List Int} {me x:Int} (h:¬x=me) (e:l=eY m su x):l=oB m me su x:=by unfold oB;rw[if_neg h,e]
noncomputable def ft_finn':NV (aB [] [] [] 0x121103cc1cf5597a7f7d584259e497ffe55d4564d011cc):=⟨_,by conv=>rhs;reduce⟩
noncomputable abbrev Zq:XF:=ft_finn'.1
theorem pf:aK Tryz.prog 19 Zq=true:=by kernel_rfl
structure ai6 where
 s:Si
structure aig where
 z:Prop
theorem XL:aA Tryz.prog 19 1 (aO (fun p:ai6=>([.ptr 0 0],(dv p.s p.s p.s),9)) (fun p=>bz (p.s.er none)) (fun p K=>aj fun r:aig=>iP (r.z↔0<(p.s.er none).N) (K (.sy (.bool r.z)) (dv p.s p.s p.s) 9) true)):=nE (nat:=br) pf fun p K hpre hK=>by
 dsimp only at hpre hK ⊢
 have hs:=hpre
 have hr_:=hs.r
 have mb:=hs.r.nl.2 _ hs.r.me
 have ba0:=hs.r.ba0
 have ba1:=hs.r.ba1
 have hl_:=hs.r.len
 dsimp only[Si.er]at hr_ mb ba0 ba1 hl_
 have g3:=hs.sa0
 have g4:=hs.sa1
 have hm:=ah hs.r.nl
 have g5:=hs.r.nl
 have g6:=List.ne_nil_of_mem hs.r.me
 have g7:=hs.n0
 have g8:=hs.n1
 have g9:=ah hs.su
 have g10:=ah hs.go
 have g11:=ah hs.jo
 have g12:=hs.jo.2
 have g13:=hs.tr0
 have g14:=hs.tr1
 dsimp only[Si.er]at g3 g4 hm g5 g6 g7 g8 g9 g10 g11 g12 g13 g14
 have yg {g:Prop} (h:g:=by first|(exact mb)|fail):g:=h
 have yp {g:Prop} (h:g:=by first|(first|exact⟨fun _=>g7,fun _=>rfl⟩|exact⟨fun _=>by first|assumption|omega,fun _=>by assumption⟩|exact⟨fun h=>by simp at h,fun h=>absurd h (by show¬(0:Int)<0;decide)⟩|(exfalso;omega))|fail):g:=h
 exact wz
noncomputable def ft_fcon':NV (aB [] [] [] 0x7454934fa1c6c99557eb14a16a13e99801f8497f213863bc1b49f7746eef291f1):=⟨_,by conv=>rhs;reduce⟩
noncomputable abbrev Zr:XF:=ft_fcon'.1
theorem pg:aK Tryz.prog 12 Zr=true:=by kernel_rfl
structure ai9 where
 s:Si
structure aij where
 z:Int
theorem XQ:aA Tryz.prog 12 1 (aO (fun p:ai9=>([.ptr 0 0],(dv p.s p.s p.s),9)) (fun p=>bz (p.s.er none)) (fun p K=>aj fun r:aij=>iP (r.z=p.s.com) (K (.sy (.int 0 r.z)) (dv p.s p.s p.s) 9) true)):=nE (nat:=br) pg fun p K hpre hK=>by
 dsimp only at hpre hK ⊢
 have hs:=hpre
 have hr_:=hs.r
 have mb:=hs.r.nl.2 _ hs.r.me
 have ba0:=hs.r.ba0
 have ba1:=hs.r.ba1
 have hl_:=hs.r.len
 dsimp only[Si.er]at hr_ mb ba0 ba1 hl_
 have g3:=hs.sa0
 have g4:=hs.sa1
 have hm:=ah hs.r.nl
 have g5:=hs.r.nl
 have g6:=List.ne_nil_of_mem hs.r.me
 have g7:=hs.n0
 have g8:=hs.n1
 have g9:=ah hs.su
 have g10:=ah hs.go
 have g11:=ah hs.jo
 have g12:=hs.jo.2
 have g13:=hs.tr0
 have g14:=hs.tr1
 dsimp only[Si.er]at g3 g4 hm g5 g6 g7 g8 g9 g10 g11 g12 g13 g14
 have yg {g:Prop} (h:g:=by first|(exact mb)|(exact⟨g7,mb⟩)|fail):g:=h
 exact wz
noncomputable def ft_flon':NV (aB [] [] [] 0x9d9adb875ce6a3154c1949e7c0c89017b3099428a3093e8172f314770253b818df32787ecf45f0):=⟨_,by conv=>rhs;reduce⟩
noncomputable abbrev Zn:XF:=ft_flon'.1
theorem pc:aK Tryz.prog 13 Zn=true:=by kernel_rfl
structure aiX where
 s:Si
structure ah7 where
 h:Value
 o:List Ke
theorem XA:aA Tryz.prog 13 1 (aO (fun p:aiX=>([.ptr 0 0],(dv p.s p.s p.s),9)) (fun p=>bz (p.s.er none)) (fun p K=>aj fun r:ah7=>iP (r.o=p.s.log) (K (.sy (.imm r.h 18 Ke r.o aD)) (dv p.s p.s p.s) 9) true)):=nE (nat:=br) pc fun p K hpre hK=>by
 dsimp only at hpre hK ⊢
 have hs:=hpre
 have hr_:=hs.r
 have mb:=hs.r.nl.2 _ hs.r.me
 have ba0:=hs.r.ba0
 have ba1:=hs.r.ba1
 have hl_:=hs.r.len
 dsimp only[Si.er]at hr_ mb ba0 ba1 hl_
 have g3:=hs.sa0
 have g4:=hs.sa1
 have hm:=ah hs.r.nl
 have g5:=hs.r.nl
 have g6:=List.ne_nil_of_mem hs.r.me
 have g7:=hs.n0
 have g8:=hs.n1
 have g9:=ah hs.su
 have g10:=ah hs.go
 have g11:=ah hs.jo
 have g12:=hs.jo.2
 have g13:=hs.tr0
 have g14:=hs.tr1
 dsimp only[Si.er]at g3 g4 hm g5 g6 g7 g8 g9 g10 g11 g12 g13 g14
 have nnx:=trivial
 have nnr:=trivial
 have ys {g:Prop} (h:g:=by first|(first|omega|(have e:=(hi).1;simp only[e,ami];omega);done)|fail):g:=h
 have yg {g:Prop} (h:g:=by first|(exact mb)|(exact⟨g7,mb⟩)|(first|omega|(simp only[ami,amr];omega))|fail):g:=h
 have yp {g:Prop} (h:g:=by first|(first|exact(hi).1|exact hi|(rw[List.take_of_length_le (by omega)];exact(hi).1)|(rw[List.take_length];exact(hi).1))|fail):g:=h
 exact wz
noncomputable def ft_fvin':NV (fun e0=>aB [e0] [] [] 0x16f5699b9d5b5197de0ec556c64a87cb88524f1e87eebfb051ccaf423b0b10b68bf5b23f5045bdbf4726):=⟨_,by conv=>rhs;reduce⟩
noncomputable abbrev Zj:XF:=ft_fvin'.1 (eC 52 2 am)
theorem oX:aK Tryz.prog 16 Zj=true:=by kernel_rfl
structure aiL where
 s:Si
structure ahV where
 N:Int
 h:Value
 m:List Int
theorem Xo:aA Tryz.prog 16 1 (aO (fun p:aiL=>([.ptr 0 0],(dv p.s p.s p.s),9)) (fun p=>bz (p.s.er none)) (fun p K=>aj fun r:ahV=>iP (r.N=(p.s.er none).N∧r.m=(p.s.er none).m) (K (lU r.N r.h r.m) (dv p.s p.s p.s) 9) true)):=nE (nat:=br) oX fun p K hpre hK=>by
 dsimp only at hpre hK ⊢
 have hs:=hpre
 have hr_:=hs.r
 have mb:=hs.r.nl.2 _ hs.r.me
 have ba0:=hs.r.ba0
 have ba1:=hs.r.ba1
 have hl_:=hs.r.len
 dsimp only[Si.er]at hr_ mb ba0 ba1 hl_
 have g3:=hs.sa0
 have g4:=hs.sa1
 have hm:=ah hs.r.nl
 have g5:=hs.r.nl
 have g6:=List.ne_nil_of_mem hs.r.me
 have g7:=hs.n0
 have g8:=hs.n1
 have g9:=ah hs.su
 have g10:=ah hs.go
 have g11:=ah hs.jo
 have g12:=hs.jo.2
 have g13:=hs.tr0
 have g14:=hs.tr1
 dsimp only[Si.er]at g3 g4 hm g5 g6 g7 g8 g9 g10 g11 g12 g13 g14
 have nnx:=trivial
 have yg {g:Prop} (h:g:=by first|(exact⟨g7,mb⟩)|fail):g:=h
 have yp {g:Prop} (h:g:=by first|(exact⟨rfl,rfl⟩)|fail):g:=h
 exact wz
noncomputable def ft_fmen':NV (aB [] [] [] 0x346d8b3008741cdc9723f13cd86fcf8aa0fd130):=⟨_,by conv=>rhs;reduce⟩
noncomputable abbrev Zm:XF:=ft_fmen'.1
theorem pb:aK Tryz.prog 27 Zm=true:=by kernel_rfl
structure aiU where
 s:Si
 h:Value
 l:List Int
structure ah4 where
 th:Value
 met:List Int
theorem Xx:aA Tryz.prog 27 1 (aO (fun p:aiU=>([.ptr 0 0,.sy (.imm p.h 2 Int p.l am)],(dv p.s p.s p.s),9)) (fun p=>bz (p.s.er none)∧p.l.length≤1000) (fun p K=>aj fun r:ah4=>iP (r.met=p.l) (K (.tup []) (dv ({p.s with th:=r.th,met:=r.met}:Si) p.s p.s) 9) true)):=nE (nat:=br) pb fun p K hpre hK=>by
 dsimp only at hpre hK ⊢
 obtain⟨hs,hx⟩:=hpre
 have hr_:=hs.r
 have mb:=hs.r.nl.2 _ hs.r.me
 have ba0:=hs.r.ba0
 have ba1:=hs.r.ba1
 have hl_:=hs.r.len
 dsimp only[Si.er]at hr_ mb ba0 ba1 hl_
 have g3:=hs.sa0
 have g4:=hs.sa1
 have hm:=ah hs.r.nl
 have g5:=hs.r.nl
 have g6:=List.ne_nil_of_mem hs.r.me
 have g7:=hs.n0
 have g8:=hs.n1
 have g9:=ah hs.su
 have g10:=ah hs.go
 have g11:=ah hs.jo
 have g12:=hs.jo.2
 have g13:=hs.tr0
 have g14:=hs.tr1
 dsimp only[Si.er]at g3 g4 hm g5 g6 g7 g8 g9 g10 g11 g12 g13 g14
 have nnx:=trivial
 have nnr:=trivial
 have yg {g:Prop} (h:g:=by first|(exact mb)|fail):g:=h
 have yp {g:Prop} (h:g:=by first|(exact(hi).1)|fail):g:=h
 exact wz
noncomputable def ft_fjon':NV (aB [] [] [] 0xabb4bba19056cf07495ec5484b1f02eaf560365e05a257):=⟨_,by conv=>rhs;reduce⟩
noncomputable abbrev Zp:XF:=ft_fjon'.1
theorem pe:aK Tryz.prog 17 Zp=true:=by kernel_rfl
structure ai3 where
 s:Si
structure aid where
 wa:Bool
theorem XI:aA Tryz.prog 17 1 (aO (fun p:ai3=>([.ptr 0 0],(dv p.s p.s p.s),9)) (fun p=>bz (p.s.er none)) (fun p K=>aj fun r:aid=>iP (r.wa=p.s.wa) (K (.tup []) (dv ({p.s with wa:=r.wa}:Si) p.s p.s) 9) true)):=nE (nat:=br) pe fun p K hpre hK=>by
 dsimp only at hpre hK ⊢
 have hs:=hpre
 have hr_:=hs.r
 have mb:=hs.r.nl.2 _ hs.r.me
 have ba0:=hs.r.ba0
 have ba1:=hs.r.ba1
 have hl_:=hs.r.len
 dsimp only[Si.er]at hr_ mb ba0 ba1 hl_
 have g3:=hs.sa0
 have g4:=hs.sa1
 have hm:=ah hs.r.nl
 have g5:=hs.r.nl
 have g6:=List.ne_nil_of_mem hs.r.me
 have g7:=hs.n0
 have g8:=hs.n1
 have g9:=ah hs.su
 have g10:=ah hs.go
 have g11:=ah hs.jo
 have g12:=hs.jo.2
 have g13:=hs.tr0
 have g14:=hs.tr1
 dsimp only[Si.er]at g3 g4 hm g5 g6 g7 g8 g9 g10 g11 g12 g13 g14
 have yg {g:Prop} (h:g:=by first|(exact mb)|(exact⟨g7,mb⟩)|fail):g:=h
 exact wz
noncomputable def ft_flen':NV (aB [] [] [] 0x2ffa491baf8f1277b217842f21):=⟨_,by conv=>rhs;reduce⟩
noncomputable abbrev Zo:XF:=ft_flen'.1
theorem pd:aK Tryz.prog 18 Zo=true:=by kernel_rfl
structure ai0 where
 s:Si
structure aia where
 go:List Int
theorem XE:aA Tryz.prog 18 1 (aO (fun p:ai0=>([.ptr 0 0],(dv p.s p.s p.s),9)) (fun p=>bz (p.s.er none)) (fun p K=>aj fun r:aia=>iP (r.go=eY p.s.m p.s.go p.s.me) (K (.tup []) (dv ({p.s with go:=r.go}:Si) p.s p.s) 9) true)):=nE (nat:=br) pd fun p K hpre hK=>by
 dsimp only at hpre hK ⊢
 have hs:=hpre
 have hr_:=hs.r
 have mb:=hs.r.nl.2 _ hs.r.me
 have ba0:=hs.r.ba0
 have ba1:=hs.r.ba1
 have hl_:=hs.r.len
 dsimp only[Si.er]at hr_ mb ba0 ba1 hl_
 have g3:=hs.sa0
 have g4:=hs.sa1
 have hm:=ah hs.r.nl
 have g5:=hs.r.nl
 have g6:=List.ne_nil_of_mem hs.r.me
 have g7:=hs.n0
 have g8:=hs.n1
 have g9:=ah hs.su
 have g10:=ah hs.go
 have g11:=ah hs.jo
 have g12:=hs.jo.2
 have g13:=hs.tr0
 have g14:=hs.tr1
 dsimp only[Si.er]at g3 g4 hm g5 g6 g7 g8 g9 g10 g11 g12 g13 g14
 have nnr:=trivial
 have yg {g:Prop} (h:g:=by first|(exact⟨g7,mb⟩)|(exact⟨hm,g10⟩)|fail):g:=h
 have yp {g:Prop} (h:g:=by first|(first|exact hi|rfl)|fail):g:=h
 exact wz
noncomputable def ft_fsun':NV (aB [] [] [] 0x17062432a232a7ff900ca0deefbfe106c1260d8f6b336da5aeafb802452f3a1c7a4b31700202e2):=⟨_,by conv=>rhs;reduce⟩
noncomputable abbrev Zk:XF:=ft_fsun'.1
theorem oY:aK Tryz.prog 20 Zk=true:=by kernel_rfl
structure aiO where
 s:Si
 x:Int
structure ahY where
 su:List Int
theorem Xr:aA Tryz.prog 20 1 (aO (fun p:aiO=>([.ptr 0 0,eL p.x],(dv p.s p.s p.s),9)) (fun p=>bz (p.s.er none)) (fun p K=>aj fun r:ahY=>iP (r.su=oB p.s.m p.s.me p.s.su p.x) (K (.tup []) (dv ({p.s with su:=r.su}:Si) p.s p.s) 9) true)):=nE (nat:=br) oY fun p K hpre hK=>by
 dsimp only at hpre hK ⊢
 have hs:=hpre
 have hr_:=hs.r
 have mb:=hs.r.nl.2 _ hs.r.me
 have ba0:=hs.r.ba0
 have ba1:=hs.r.ba1
 have hl_:=hs.r.len
 dsimp only[Si.er]at hr_ mb ba0 ba1 hl_
 have g3:=hs.sa0
 have g4:=hs.sa1
 have hm:=ah hs.r.nl
 have g5:=hs.r.nl
 have g6:=List.ne_nil_of_mem hs.r.me
 have g7:=hs.n0
 have g8:=hs.n1
 have g9:=ah hs.su
 have g10:=ah hs.go
 have g11:=ah hs.jo
 have g12:=hs.jo.2
 have g13:=hs.tr0
 have g14:=hs.tr1
 dsimp only[Si.er]at g3 g4 hm g5 g6 g7 g8 g9 g10 g11 g12 g13 g14
 have nnq:=trivial
 have ys {g:Prop} (h:g:=by first|(simp[bR];omega;done)|fail):g:=h
 have yg {g:Prop} (h:g:=by first|(exact⟨g7,mb⟩)|fail):g:=h
 have yp {g:Prop} (h:g:=by first|(first|exact EM (by first|assumption|exact Classical.not_not.1 (by assumption))|exact kZ (by assumption) (ly (.inl (by assumption)))|exact kZ (by assumption) (ly (.inr (by first|assumption|exact Classical.not_not.1 (by assumption))))|exact kZ (by assumption) (tm (by first|assumption|exact Classical.not_not.1 (by assumption)) (by assumption)))|fail):g:=h
 have yq {g:Prop} (h:g:=by first|(refine wX [_] (by first|exact sd|exact ys) ?_;exact wz)|fail):g:=h
 exact wz
noncomputable def ft_fsbn':NV (aB [] [] [] 0x810af478a42097ee05698159a5502c3a4ff89d9b3c5cae3dd265bbf724a130a8bb57866811dd9ec6467c):=⟨_,by conv=>rhs;reduce⟩
noncomputable abbrev Zl:XF:=ft_fsbn'.1
theorem oZ:aK Tryz.prog 24 Zl=true:=by kernel_rfl
structure aiR where
 s:Si
 x:Ke
structure ah1 where
 z:Int
 log:List Ke
 com:Int
 hs:List (Int×Int)
theorem Xu:aA Tryz.prog 24 1 (aO (fun p:aiR=>([.ptr 0 0,AJ [] p.x.v p.x.w],(dv p.s p.s p.s),9)) (fun p=>bz (p.s.er none)∧vQ p.x) (fun p K=>aj fun r:ah1=>iP ((r.log,r.com,r.hs)=gT p.s.m p.s.me p.s.log p.s.com p.s.sh p.s.hs p.x) (K (.sy (.int 0 r.z)) (dv p.s ({p.s with log:=r.log,com:=r.com,hs:=r.hs}:Si) p.s) 9) true)):=nE (nat:=br) oZ fun p K hpre hK=>by
 dsimp only at hpre hK ⊢
 obtain⟨hs,hx⟩:=hpre
 have hr_:=hs.r
 have mb:=hs.r.nl.2 _ hs.r.me
 have ba0:=hs.r.ba0
 have ba1:=hs.r.ba1
 have hl_:=hs.r.len
 dsimp only[Si.er]at hr_ mb ba0 ba1 hl_
 have g3:=hs.sa0
 have g4:=hs.sa1
 have hm:=ah hs.r.nl
 have g5:=hs.r.nl
 have g6:=List.ne_nil_of_mem hs.r.me
 have g7:=hs.n0
 have g8:=hs.n1
 have g9:=ah hs.su
 have g10:=ah hs.go
 have g11:=ah hs.jo
 have g12:=hs.jo.2
 have g13:=hs.tr0
 have g14:=hs.tr1
 dsimp only[Si.er]at g3 g4 hm g5 g6 g7 g8 g9 g10 g11 g12 g13 g14
 have nnr:=trivial
 have yg {g:Prop} (h:g:=by first|(exact mb)|(exact⟨g7,mb⟩)|(exact⟨hr_,hx⟩)|fail):g:=h
 have yp {g:Prop} (h:g:=by first|(exact hi)|fail):g:=h
 have yq {g:Prop} (h:g:=by first|(refine cb (.mk _ _ _ _ _ _ _ _ _ (.mk ..) ..) (h:= ?_);exact wo)|fail):g:=h
 exact wz
structure ai4 where
 s:Si
 v:Qi
structure aie where
 z:Prop
theorem XJ:aA Tryz.prog 19 1 (aO (fun p:ai4=>([.ptr 0 0],(du p.s p.s p.s p.s p.v),11)) (fun p=>bz (p.s.er none)) (fun p K=>aj fun r:aie=>iP (r.z↔0<(p.s.er (some p.v.er)).N) (K (.sy (.bool r.z)) (du p.s p.s p.s p.s p.v) 11) true)):=nE (nat:=br) pf fun p K hpre hK=>by
 dsimp only at hpre hK ⊢
 have hs:=hpre
 have hr_:=hs.r
 have mb:=hs.r.nl.2 _ hs.r.me
 have ba0:=hs.r.ba0
 have ba1:=hs.r.ba1
 have hl_:=hs.r.len
 dsimp only[Si.er]at hr_ mb ba0 ba1 hl_
 have g3:=hs.sa0
 have g4:=hs.sa1
 have hm:=ah hs.r.nl
 have g5:=hs.r.nl
 have g6:=List.ne_nil_of_mem hs.r.me
 have g7:=hs.n0
 have g8:=hs.n1
 have g9:=ah hs.su
 have g10:=ah hs.go
 have g11:=ah hs.jo
 have g12:=hs.jo.2
 have g13:=hs.tr0
 have g14:=hs.tr1
 dsimp only[Si.er]at g3 g4 hm g5 g6 g7 g8 g9 g10 g11 g12 g13 g14
 have yg {g:Prop} (h:g:=by first|(exact mb)|fail):g:=h
 have yp {g:Prop} (h:g:=by first|(first|exact⟨fun _=>g7,fun _=>rfl⟩|exact⟨fun _=>by first|assumption|omega,fun _=>by assumption⟩|exact⟨fun h=>by simp at h,fun h=>absurd h (by show¬(0:Int)<0;decide)⟩|(exfalso;omega))|fail):g:=h
 exact wz
structure ai7 where
 s:Si
 v:Qi
structure aih where
 z:Int
theorem XM:aA Tryz.prog 12 1 (aO (fun p:ai7=>([.ptr 0 0],(du p.s p.s p.s p.s p.v),11)) (fun p=>bz (p.s.er none)) (fun p K=>aj fun r:aih=>iP (r.z=p.s.com) (K (.sy (.int 0 r.z)) (du p.s p.s p.s p.s p.v) 11) true)):=nE (nat:=br) pg fun p K hpre hK=>by
 dsimp only at hpre hK ⊢
 have hs:=hpre
 have hr_:=hs.r
 have mb:=hs.r.nl.2 _ hs.r.me
 have ba0:=hs.r.ba0
 have ba1:=hs.r.ba1
 have hl_:=hs.r.len
 dsimp only[Si.er]at hr_ mb ba0 ba1 hl_
 have g3:=hs.sa0
 have g4:=hs.sa1
 have hm:=ah hs.r.nl
 have g5:=hs.r.nl
 have g6:=List.ne_nil_of_mem hs.r.me
 have g7:=hs.n0
 have g8:=hs.n1
 have g9:=ah hs.su
 have g10:=ah hs.go
 have g11:=ah hs.jo
 have g12:=hs.jo.2
 have g13:=hs.tr0
 have g14:=hs.tr1
 dsimp only[Si.er]at g3 g4 hm g5 g6 g7 g8 g9 g10 g11 g12 g13 g14
 have yg {g:Prop} (h:g:=by first|(exact mb)|(exact⟨g7,mb⟩)|fail):g:=h
 exact wz
structure aiV where
 s:Si
 v:Qi
structure ah5 where
 h:Value
 o:List Ke
theorem Xy:aA Tryz.prog 13 1 (aO (fun p:aiV=>([.ptr 0 0],(du p.s p.s p.s p.s p.v),11)) (fun p=>bz (p.s.er none)) (fun p K=>aj fun r:ah5=>iP (r.o=p.s.log) (K (.sy (.imm r.h 18 Ke r.o aD)) (du p.s p.s p.s p.s p.v) 11) true)):=nE (nat:=br) pc fun p K hpre hK=>by
 dsimp only at hpre hK ⊢
 have hs:=hpre
 have hr_:=hs.r
 have mb:=hs.r.nl.2 _ hs.r.me
 have ba0:=hs.r.ba0
 have ba1:=hs.r.ba1
 have hl_:=hs.r.len
 dsimp only[Si.er]at hr_ mb ba0 ba1 hl_
 have g3:=hs.sa0
 have g4:=hs.sa1
 have hm:=ah hs.r.nl
 have g5:=hs.r.nl
 have g6:=List.ne_nil_of_mem hs.r.me
 have g7:=hs.n0
 have g8:=hs.n1
 have g9:=ah hs.su
 have g10:=ah hs.go
 have g11:=ah hs.jo
 have g12:=hs.jo.2
 have g13:=hs.tr0
 have g14:=hs.tr1
 dsimp only[Si.er]at g3 g4 hm g5 g6 g7 g8 g9 g10 g11 g12 g13 g14
 have nnx:=trivial
 have nnr:=trivial
 have ys {g:Prop} (h:g:=by first|(first|omega|(have e:=(hi).1;simp only[e,ami];omega);done)|fail):g:=h
 have yg {g:Prop} (h:g:=by first|(exact mb)|(exact⟨g7,mb⟩)|(first|omega|(simp only[ami,amr];omega))|fail):g:=h
 have yp {g:Prop} (h:g:=by first|(first|exact(hi).1|exact hi|(rw[List.take_of_length_le (by omega)];exact(hi).1)|(rw[List.take_length];exact(hi).1))|fail):g:=h
 exact wz
structure aiJ where
 s:Si
 v:Qi
structure ahT where
 N:Int
 h:Value
 m:List Int
theorem Xm:aA Tryz.prog 16 1 (aO (fun p:aiJ=>([.ptr 0 0],(du p.s p.s p.s p.s p.v),11)) (fun p=>bz (p.s.er none)) (fun p K=>aj fun r:ahT=>iP (r.N=(p.s.er (some p.v.er)).N∧r.m=(p.s.er (some p.v.er)).m) (K (lU r.N r.h r.m) (du p.s p.s p.s p.s p.v) 11) true)):=nE (nat:=br) oX fun p K hpre hK=>by
 dsimp only at hpre hK ⊢
 have hs:=hpre
 have hr_:=hs.r
 have mb:=hs.r.nl.2 _ hs.r.me
 have ba0:=hs.r.ba0
 have ba1:=hs.r.ba1
 have hl_:=hs.r.len
 dsimp only[Si.er]at hr_ mb ba0 ba1 hl_
 have g3:=hs.sa0
 have g4:=hs.sa1
 have hm:=ah hs.r.nl
 have g5:=hs.r.nl
 have g6:=List.ne_nil_of_mem hs.r.me
 have g7:=hs.n0
 have g8:=hs.n1
 have g9:=ah hs.su
 have g10:=ah hs.go
 have g11:=ah hs.jo
 have g12:=hs.jo.2
 have g13:=hs.tr0
 have g14:=hs.tr1
 dsimp only[Si.er]at g3 g4 hm g5 g6 g7 g8 g9 g10 g11 g12 g13 g14
 have nnx:=trivial
 have yg {g:Prop} (h:g:=by first|(exact⟨g7,mb⟩)|fail):g:=h
 have yp {g:Prop} (h:g:=by first|(exact⟨rfl,rfl⟩)|fail):g:=h
 exact wz
structure aiS where
 s:Si
 v:Qi
 h:Value
 l:List Int
structure ah2 where
 th:Value
 met:List Int
theorem Xv:aA Tryz.prog 27 1 (aO (fun p:aiS=>([.ptr 0 0,.sy (.imm p.h 2 Int p.l am)],(du p.s p.s p.s p.s p.v),11)) (fun p=>bz (p.s.er none)∧p.l.length≤1000) (fun p K=>aj fun r:ah2=>iP (r.met=p.l) (K (.tup []) (du ({p.s with th:=r.th,met:=r.met}:Si) p.s p.s p.s p.v) 11) true)):=nE (nat:=br) pb fun p K hpre hK=>by
 dsimp only at hpre hK ⊢
 obtain⟨hs,hx⟩:=hpre
 have hr_:=hs.r
 have mb:=hs.r.nl.2 _ hs.r.me
 have ba0:=hs.r.ba0
 have ba1:=hs.r.ba1
 have hl_:=hs.r.len
 dsimp only[Si.er]at hr_ mb ba0 ba1 hl_
 have g3:=hs.sa0
 have g4:=hs.sa1
 have hm:=ah hs.r.nl
 have g5:=hs.r.nl
 have g6:=List.ne_nil_of_mem hs.r.me
 have g7:=hs.n0
 have g8:=hs.n1
 have g9:=ah hs.su
 have g10:=ah hs.go
 have g11:=ah hs.jo
 have g12:=hs.jo.2
 have g13:=hs.tr0
 have g14:=hs.tr1
 dsimp only[Si.er]at g3 g4 hm g5 g6 g7 g8 g9 g10 g11 g12 g13 g14
 have nnx:=trivial
 have nnr:=trivial
 have yg {g:Prop} (h:g:=by first|(exact mb)|fail):g:=h
 have yp {g:Prop} (h:g:=by first|(exact(hi).1)|fail):g:=h
 exact wz
structure ai1 where
 s:Si
 v:Qi
structure aib where
 wa:Bool
theorem XG:aA Tryz.prog 17 1 (aO (fun p:ai1=>([.ptr 0 0],(du p.s p.s p.s p.s p.v),11)) (fun p=>bz (p.s.er none)) (fun p K=>aj fun r:aib=>iP (r.wa=p.s.wa) (K (.tup []) (du ({p.s with wa:=r.wa}:Si) p.s p.s p.s p.v) 11) true)):=nE (nat:=br) pe fun p K hpre hK=>by
 dsimp only at hpre hK ⊢
 have hs:=hpre
 have hr_:=hs.r
 have mb:=hs.r.nl.2 _ hs.r.me
 have ba0:=hs.r.ba0
 have ba1:=hs.r.ba1
 have hl_:=hs.r.len
 dsimp only[Si.er]at hr_ mb ba0 ba1 hl_
 have g3:=hs.sa0
 have g4:=hs.sa1
 have hm:=ah hs.r.nl
 have g5:=hs.r.nl
 have g6:=List.ne_nil_of_mem hs.r.me
 have g7:=hs.n0
 have g8:=hs.n1
 have g9:=ah hs.su
 have g10:=ah hs.go
 have g11:=ah hs.jo
 have g12:=hs.jo.2
 have g13:=hs.tr0
 have g14:=hs.tr1
 dsimp only[Si.er]at g3 g4 hm g5 g6 g7 g8 g9 g10 g11 g12 g13 g14
 have yg {g:Prop} (h:g:=by first|(exact mb)|(exact⟨g7,mb⟩)|fail):g:=h
 exact wz
structure aiY where
 s:Si
 v:Qi
structure ah8 where
 go:List Int
theorem XB:aA Tryz.prog 18 1 (aO (fun p:aiY=>([.ptr 0 0],(du p.s p.s p.s p.s p.v),11)) (fun p=>bz (p.s.er none)) (fun p K=>aj fun r:ah8=>iP (r.go=eY p.s.m p.s.go p.s.me) (K (.tup []) (du ({p.s with go:=r.go}:Si) p.s p.s p.s p.v) 11) true)):=nE (nat:=br) pd fun p K hpre hK=>by
 dsimp only at hpre hK ⊢
 have hs:=hpre
 have hr_:=hs.r
 have mb:=hs.r.nl.2 _ hs.r.me
 have ba0:=hs.r.ba0
 have ba1:=hs.r.ba1
 have hl_:=hs.r.len
 dsimp only[Si.er]at hr_ mb ba0 ba1 hl_
 have g3:=hs.sa0
 have g4:=hs.sa1
 have hm:=ah hs.r.nl
 have g5:=hs.r.nl
 have g6:=List.ne_nil_of_mem hs.r.me
 have g7:=hs.n0
 have g8:=hs.n1
 have g9:=ah hs.su
 have g10:=ah hs.go
 have g11:=ah hs.jo
 have g12:=hs.jo.2
 have g13:=hs.tr0
 have g14:=hs.tr1
 dsimp only[Si.er]at g3 g4 hm g5 g6 g7 g8 g9 g10 g11 g12 g13 g14
 have nnr:=trivial
 have yg {g:Prop} (h:g:=by first|(exact⟨g7,mb⟩)|(exact⟨hm,g10⟩)|fail):g:=h
 have yp {g:Prop} (h:g:=by first|(first|exact hi|rfl)|fail):g:=h
 exact wz
structure aiM where
 s:Si
 v:Qi
 x:Int
structure ahW where
 su:List Int
theorem Xp:aA Tryz.prog 20 1 (aO (fun p:aiM=>([.ptr 0 0,eL p.x],(du p.s p.s p.s p.s p.v),11)) (fun p=>bz (p.s.er none)) (fun p K=>aj fun r:ahW=>iP (r.su=oB p.s.m p.s.me p.s.su p.x) (K (.tup []) (du ({p.s with su:=r.su}:Si) p.s p.s p.s p.v) 11) true)):=nE (nat:=br) oY fun p K hpre hK=>by
 dsimp only at hpre hK ⊢
 have hs:=hpre
 have hr_:=hs.r
 have mb:=hs.r.nl.2 _ hs.r.me
 have ba0:=hs.r.ba0
 have ba1:=hs.r.ba1
 have hl_:=hs.r.len
 dsimp only[Si.er]at hr_ mb ba0 ba1 hl_
 have g3:=hs.sa0
 have g4:=hs.sa1
 have hm:=ah hs.r.nl
 have g5:=hs.r.nl
 have g6:=List.ne_nil_of_mem hs.r.me
 have g7:=hs.n0
 have g8:=hs.n1
 have g9:=ah hs.su
 have g10:=ah hs.go
 have g11:=ah hs.jo
 have g12:=hs.jo.2
 have g13:=hs.tr0
 have g14:=hs.tr1
 dsimp only[Si.er]at g3 g4 hm g5 g6 g7 g8 g9 g10 g11 g12 g13 g14
 have nnq:=trivial
 have ys {g:Prop} (h:g:=by first|(simp[bR];omega;done)|fail):g:=h
 have yg {g:Prop} (h:g:=by first|(exact⟨g7,mb⟩)|fail):g:=h
 have yp {g:Prop} (h:g:=by first|(first|exact EM (by first|assumption|exact Classical.not_not.1 (by assumption))|exact kZ (by assumption) (ly (.inl (by assumption)))|exact kZ (by assumption) (ly (.inr (by first|assumption|exact Classical.not_not.1 (by assumption))))|exact kZ (by assumption) (tm (by first|assumption|exact Classical.not_not.1 (by assumption)) (by assumption)))|fail):g:=h
 have yq {g:Prop} (h:g:=by first|(refine wX [_] (by first|exact sd|exact ys) ?_;exact wz)|fail):g:=h
 exact wz
structure aiP where
 s:Si
 v:Qi
 x:Ke
structure ahZ where
 z:Int
 log:List Ke
 com:Int
 hs:List (Int×Int)
theorem Xs:aA Tryz.prog 24 1 (aO (fun p:aiP=>([.ptr 0 0,AJ [] p.x.v p.x.w],(du p.s p.s p.s p.s p.v),11)) (fun p=>bz (p.s.er none)∧vQ p.x) (fun p K=>aj fun r:ahZ=>iP ((r.log,r.com,r.hs)=gT p.s.m p.s.me p.s.log p.s.com p.s.sh p.s.hs p.x) (K (.sy (.int 0 r.z)) (du p.s ({p.s with log:=r.log,com:=r.com,hs:=r.hs}:Si) p.s p.s p.v) 11) true)):=nE (nat:=br) oZ fun p K hpre hK=>by
 dsimp only at hpre hK ⊢
 obtain⟨hs,hx⟩:=hpre
 have hr_:=hs.r
 have mb:=hs.r.nl.2 _ hs.r.me
 have ba0:=hs.r.ba0
 have ba1:=hs.r.ba1
 have hl_:=hs.r.len
 dsimp only[Si.er]at hr_ mb ba0 ba1 hl_
 have g3:=hs.sa0
 have g4:=hs.sa1
 have hm:=ah hs.r.nl
 have g5:=hs.r.nl
 have g6:=List.ne_nil_of_mem hs.r.me
 have g7:=hs.n0
 have g8:=hs.n1
 have g9:=ah hs.su
 have g10:=ah hs.go
 have g11:=ah hs.jo
 have g12:=hs.jo.2
 have g13:=hs.tr0
 have g14:=hs.tr1
 dsimp only[Si.er]at g3 g4 hm g5 g6 g7 g8 g9 g10 g11 g12 g13 g14
 have nnr:=trivial
 have yg {g:Prop} (h:g:=by first|(exact mb)|(exact⟨g7,mb⟩)|(exact⟨hr_,hx⟩)|fail):g:=h
 have yp {g:Prop} (h:g:=by first|(exact hi)|fail):g:=h
 have yq {g:Prop} (h:g:=by first|(refine cb (.mk _ _ _ _ _ _ _ _ _ (.mk ..) ..) (h:= ?_);exact wo)|fail):g:=h
 exact wz
structure ai5 where
 s:So
structure aif where
 z:Prop
theorem XK:aA Tryz.prog 19 1 (aO (fun p:ai5=>([.ptr 0 0],(di p.s),5)) (fun p=>kF p.s.er) (fun p K=>aj fun r:aif=>iP (r.z↔0<p.s.er.N) (K (.sy (.bool r.z)) (di p.s) 5) true)):=nE (nat:=br) pf fun p K hpre hK=>by
 dsimp only at hpre hK ⊢
 have hs:=hpre
 have mb:=hs.me
 have g9:=ah hs.su
 have wl_:=hs.wasl
 dsimp only[So.er]at mb g9 wl_
 have yg {g:Prop} (h:g:=by first|(exact mb)|fail):g:=h
 have yp {g:Prop} (h:g:=by first|(exact⟨fun h=>by simp at h,fun h=>absurd h (by show¬(0:Int)<0;decide)⟩)|fail):g:=h
 exact wz
structure ai8 where
 s:So
structure aii where
 z:Int
theorem XN:aA Tryz.prog 12 1 (aO (fun p:ai8=>([.ptr 0 0],(di p.s),5)) (fun p=>kF p.s.er) (fun p K=>aj fun r:aii=>iP (r.z=p.s.wc) (K (.sy (.int 0 r.z)) (di p.s) 5) true)):=nE (nat:=br) pg fun p K hpre hK=>by
 dsimp only at hpre hK ⊢
 have hs:=hpre
 have mb:=hs.me
 have g9:=ah hs.su
 have wl_:=hs.wasl
 dsimp only[So.er]at mb g9 wl_
 have yg {g:Prop} (h:g:=by first|(exact mb)|fail):g:=h
 exact wz
structure aiW where
 s:So
structure ah6 where
 h:Value
 o:List Ke
theorem Xz:aA Tryz.prog 13 1 (aO (fun p:aiW=>([.ptr 0 0],(di p.s),5)) (fun p=>kF p.s.er) (fun p K=>aj fun r:ah6=>iP (r.o=p.s.was) (K (.sy (.imm r.h 18 Ke r.o aD)) (di p.s) 5) true)):=nE (nat:=br) pc fun p K hpre hK=>by
 dsimp only at hpre hK ⊢
 have hs:=hpre
 have mb:=hs.me
 have g9:=ah hs.su
 have wl_:=hs.wasl
 dsimp only[So.er]at mb g9 wl_
 have nnr:=trivial
 have yg {g:Prop} (h:g:=by first|(exact mb)|fail):g:=h
 have yp {g:Prop} (h:g:=by first|(first|exact(hi).1|exact hi|(rw[List.take_of_length_le (by omega)];exact(hi).1)|(rw[List.take_length];exact(hi).1))|fail):g:=h
 exact wz
structure aiK where
 s:So
structure ahU where
 N:Int
 h:Value
 m:List Int
theorem Xn:aA Tryz.prog 16 1 (aO (fun p:aiK=>([.ptr 0 0],(di p.s),5)) (fun p=>kF p.s.er) (fun p K=>aj fun r:ahU=>iP (r.N=p.s.er.N∧r.m=p.s.er.m) (K (lU r.N r.h r.m) (di p.s) 5) true)):=nE (nat:=br) oX fun p K hpre hK=>by
 dsimp only at hpre hK ⊢
 have hs:=hpre
 have mb:=hs.me
 have g9:=ah hs.su
 have wl_:=hs.wasl
 dsimp only[So.er]at mb g9 wl_
 have nnx:=trivial
 have yg {g:Prop} (h:g:=by first|(exact mb)|fail):g:=h
 have yp {g:Prop} (h:g:=by first|(exact⟨rfl,rfl⟩)|fail):g:=h
 have ye {g:Prop} (h:g:=by first|(exact cR hK (.mk _ _ [] ..))|fail):g:=h
 exact wz
structure aiT where
 s:So
 h:Value
 l:List Int
structure ah3 where
 th:Value
 met:List Int
theorem Xw:aA Tryz.prog 27 1 (aO (fun p:aiT=>([.ptr 0 0,.sy (.imm p.h 2 Int p.l am)],(di p.s),5)) (fun p=>kF p.s.er∧p.l.length≤1000) (fun p K=>aj fun r:ah3=>iP (r.met=p.l) (K (.tup []) (di ({p.s with th:=r.th,met:=r.met}:So)) 5) true)):=nE (nat:=br) pb fun p K hpre hK=>by
 dsimp only at hpre hK ⊢
 obtain⟨hs,hx⟩:=hpre
 have mb:=hs.me
 have g9:=ah hs.su
 have wl_:=hs.wasl
 dsimp only[So.er]at mb g9 wl_
 have nnx:=trivial
 have nnr:=trivial
 have yg {g:Prop} (h:g:=by first|(exact mb)|fail):g:=h
 have yp {g:Prop} (h:g:=by first|(exact(hi).1)|fail):g:=h
 exact wz
structure ai2 where
 s:So
structure aic where
 wa:Bool
theorem XH:aA Tryz.prog 17 1 (aO (fun p:ai2=>([.ptr 0 0],(di p.s),5)) (fun p=>kF p.s.er) (fun p K=>aj fun r:aic=>iP (r.wa=true) (K (.tup []) (di ({p.s with wa:=r.wa}:So)) 5) true)):=nE (nat:=br) pe fun p K hpre hK=>by
 dsimp only at hpre hK ⊢
 have hs:=hpre
 have mb:=hs.me
 have g9:=ah hs.su
 have wl_:=hs.wasl
 dsimp only[So.er]at mb g9 wl_
 have yg {g:Prop} (h:g:=by first|(exact mb)|fail):g:=h
 exact wz
structure aiZ where
 s:So
structure ah9 where
 go:List Int
theorem XD:aA Tryz.prog 18 1 (aO (fun p:aiZ=>([.ptr 0 0],(di p.s),5)) (fun p=>kF p.s.er) (fun p K=>aj fun r:ah9=>iP (r.go=p.s.go) (K (.tup []) (di ({p.s with go:=r.go}:So)) 5) true)):=nE (nat:=br) pd fun p K hpre hK=>by
 dsimp only at hpre hK ⊢
 have hs:=hpre
 have mb:=hs.me
 have g9:=ah hs.su
 have wl_:=hs.wasl
 dsimp only[So.er]at mb g9 wl_
 have yg {g:Prop} (h:g:=by first|(exact mb)|fail):g:=h
 have yp {g:Prop} (h:g:=by first|(first|exact hi|rfl)|fail):g:=h
 exact wz
structure aiN where
 s:So
 x:Int
structure ahX where
 su:List Int
theorem Xq:aA Tryz.prog 20 1 (aO (fun p:aiN=>([.ptr 0 0,eL p.x],(di p.s),5)) (fun p=>kF p.s.er) (fun p K=>aj fun r:ahX=>iP (r.su=p.s.su) (K (.tup []) (di ({p.s with su:=r.su}:So)) 5) true)):=nE (nat:=br) oY fun p K hpre hK=>by
 dsimp only at hpre hK ⊢
 have hs:=hpre
 have mb:=hs.me
 have g9:=ah hs.su
 have wl_:=hs.wasl
 dsimp only[So.er]at mb g9 wl_
 have yg {g:Prop} (h:g:=by first|(exact mb)|fail):g:=h
 exact wz
structure aiQ where
 s:So
 x:Ke
structure ah0 where
 z:Int
theorem Xt:aA Tryz.prog 24 1 (aO (fun p:aiQ=>([.ptr 0 0,AJ [] p.x.v p.x.w],(di p.s),5)) (fun p=>kF p.s.er∧vQ p.x) (fun p K=>aj fun r:ah0=>iP (True) (K (.sy (.int 0 r.z)) (di p.s) 5) true)):=nE (nat:=br) oZ fun p K hpre hK=>by
 dsimp only at hpre hK ⊢
 obtain⟨hs,hx⟩:=hpre
 have mb:=hs.me
 have g9:=ah hs.su
 have wl_:=hs.wasl
 dsimp only[So.er]at mb g9 wl_
 have yg {g:Prop} (h:g:=by first|(exact mb)|fail):g:=h
 exact wz
end Go.Proofs.Tryz
namespace Go.Proofs.Tryz
open Go Go.RowKit Go.Sy
open Go.Eng hiding aj
def SForm (M:T) (n:Nat) (s:St):Prop:=
 (∃x:Si,M=dv x x x∧n=9∧s=x.er none∧(x.be.length:Int)≤x.se∧0<x.N)∨
 (∃(x:Si) (v:Qi),M=du x x x x v∧n=11∧s=x.er (some v.er)∧(x.be.length:Int)≤x.se∧0<x.N)∨
 (∃u:So,M=di u∧n=5∧s=u.er∧(u.be.length:Int)≤u.se)
theorem SForm.noQ {M:T} {n:Nat} {s:St} (h:SForm M n s):∀i o,M.get i=some o→¬BR o:=by
 rcases h with⟨x,rfl,_⟩|⟨x,v,rfl,_⟩|⟨u,rfl,_⟩
 ·exact jW (by kernel_rfl)
 ·exact jW (by kernel_rfl)
 ·exact jW (by kernel_rfl)
def SeatAt (h:Value) (s:St) (m:dS) (c:aH):Prop:=∃(b cap:Nat) (M:T) (n:Nat) (ρ:Go.Sy.Ren) (at0:Nat→Value),h= .pointer (some ⟨b,0,none⟩)∧SForm M n s∧ρ 0=some ⟨b,cap⟩∧(∀i,Value.oneCell' (at0 i)=true)∧(∀i,n≤i→ρ i=none)∧
 (∀i o,M.get i=some o→∃e,ρ i=some e∧((bC e o=true∧∃ob,(e.b,ob)∈c∧ORel ⟨at0,m⟩ ρ e o ob)∨(bC e o=false∧uf o)))∧
 (∀i j e f o o',M.get i=some o→M.get j=some o'→ρ i=some e→ρ j=some f→bC e o=true→bC f o'=true→e.b=f.b→i=j)
theorem SeatAt.mono {h:Value} {s:St} {m m':dS} {c:aH} (hm:MLe m m') (k:SeatAt h s m c):SeatAt h s m' c:=by
 obtain⟨b,cap,M,n,ρ,at0,h1,h2,h3,h4,h5,h6,h7⟩:=k
 refine⟨b,cap,M,n,ρ,at0,h1,h2,h3,h4,h5,fun i o hi=> ?_,h7⟩
 obtain⟨e,a1,⟨a2,ob,a3,a4⟩|a2⟩:=h6 i o hi
 ·exact⟨e,a1,.inl ⟨a2,ob,a3,ORel.env (E:=⟨at0,m⟩) (E':=⟨at0,m'⟩) ⟨fun _ _ _=>rfl,hm⟩ a4⟩⟩
 ·exact⟨e,a1,.inr a2⟩
def SeatsH:List (Value×St)→dS→aH→Prop
 |[],_,_=>True
 |x::l,m,D=>∃c D',D.Perm (c++D')∧SeatAt x.1 x.2 m c∧SeatsH l m D'
theorem SeatsH.mono {m m':dS} (hm:MLe m m'):∀{l:List (Value×St)} {D:aH},SeatsH l m D→SeatsH l m' D
 |[],_,h=>h
 |_::_,_,⟨c,D',h1,h2,h3⟩=>⟨c,D',h1,h2.mono hm,h3.mono hm⟩
theorem SeatsH.split {m:dS} {h:Value} {s:St}:∀{l:List (Value×St)} {n:Nat} {D:aH},SeatsH l m D→l[n]?=some (h,s)→∃c R,D.Perm (c++R)∧SeatAt h s m c∧∀s' c' m',MLe m m'→SeatAt h s' m' c'→SeatsH (l.set n (h,s')) m' (c'++R)
 |[],n,D,_,hn=>by simp at hn
 |x::l,0,D,⟨c,D',h1,h2,h3⟩,hn=>by
  simp only[List.getElem?_cons_zero,Option.some.injEq]at hn
  subst hn
  exact⟨c,D',h1,h2,fun s' c' m' hm hat=>⟨c',D',List.Perm.refl _,hat,h3.mono hm⟩⟩
 |x::l,n+1,D,⟨c0,D0,h1,h2,h3⟩,hn=>by
  simp only[List.getElem?_cons_succ]at hn
  obtain⟨c,R,g1,g2,g3⟩:=SeatsH.split h3 hn
  refine⟨c,c0++R,h1.trans ((List.Perm.append_left c0 g1).trans ?_),g2,fun s' c' m' hm hat=>⟨c0,c'++R,?_,h2.mono hm,g3 s' c' m' hm hat⟩⟩
  ·rw[←amb,←amb]
   exact List.Perm.append_right R List.perm_append_comm
  ·rw[←amb,←amb]
   exact List.Perm.append_right R List.perm_append_comm
def bJ (x:List Value×List St) (m:dS) (D:aH):Prop:=x.1.length=x.2.length∧SeatsH (x.1.zip x.2) m D
def OQ (ps:List Value) (ss:List St):T:=.node .leaf (some (.opq (List Value×List St) (ps,ss) bJ)) .leaf
theorem OQ_get {ps:List Value} {ss:List St} {i:Nat} {o:AObj} (h:(OQ ps ss).get i=some o):i=0∧o= .opq (List Value×List St) (ps,ss) bJ:=by
 cases i with
 |zero=>cases h;exact⟨rfl,rfl⟩
 |succ i=>
  rcases Nat.mod_two_eq_zero_or_one i with e|e
  ·unfold OQ at h;rw[T.get_even _ _ _ _ e,T.get_leaf]at h;cases h
  ·unfold OQ at h;rw[T.get_odd _ _ _ _ e,T.get_leaf]at h;cases h
def SI (s:St):Prop:=(0<s.N→bz s∧rb s∧∀v,s.q=some v→PQOk s v)∧(¬0<s.N→kF s)
theorem ajs {x:Si} {q:Option Pq} (h:bz (x.er q)):bz (x.er none):=⟨h.r,h.n0,h.n1,h.se,h.su,h.jo,h.go,h.met,h.log,h.was,h.wasl,h.sa0,h.sa1,h.tr0,h.tr1,h.ro0,h.ro1,h.prm0,h.prm1,h.aa0,h.aa1,h.av,h.avk⟩
theorem SI.n {x:Si} (h:SI (x.er none)) (h0:0<x.N):bz (x.er none)∧rb (x.er none):=⟨(h.1 h0).1,(h.1 h0).2.1⟩
theorem SI.q {x:Si} {v:Qi} (h:SI (x.er (some v.er))) (h0:0<x.N):bz (x.er none)∧PQOk (x.er none) v.er:=⟨ajs (h.1 h0).1,gK ((h.1 h0).2.2 v.er rfl) rfl rfl rfl rfl⟩
theorem SI.o {u:So} (h:SI u.er):kF u.er:=h.2 (by show¬(0:Int)<0;decide)
def qY (v:AV):Prop:=∀(E E':Env) (ρ ρ':Go.Sy.Ren) x,E'.M=E.M→den E ρ v=some x→den E' ρ' v=some x
theorem cP (ag:Bool) (ps:List PL):qY (aU ag ps):=fun _ _ _ _ _ h hd=>tI h hd
theorem mO:qY (.tup []):=fun E E' ρ ρ' x h hd=>by simpa[den,ay] using hd
theorem AE {E E':Env} {ρ ρ':Go.Sy.Ren} (hM:E'.M=E.M):∀{us:List AV} {xs:List Value},(∀u∈us,qY u)→ay E ρ us=some xs→ay E' ρ' us=some xs
 |[],_,_,h=>h
 |u::us,xs,hp,h=>by
  obtain⟨x,ys,h1,h2,rfl⟩:=bf h
  exact eR (hp u (by simp) E E' ρ ρ' x hM h1) (AE hM (fun v hv=>hp v (by simp[hv])) h2)
theorem aZ {f k:Nat} {sp sp':cu} (h:aA Tryz.prog f k sp) (hi:∀us M nx K,sp' us M nx K=true→sp us M nx K=true):aA Tryz.prog f k sp':=fun us xs E ρ G F M nx w K R a b c d=>h us xs E ρ G F M nx w K R a b c (hi _ _ _ _ d)
def ia (f:Nat) (us:List AV) (pre:St→Prop) (post:St→AV→St→Prop):Prop:=∀s M n,SForm M n s→pre s→aA Tryz.prog f 1 (fun us' M' n' K=>aq (us'= .ptr 0 0::us∧M'=M∧n'=n∧∀v s' M2 n2,SForm M2 n2 s'→post s v s'→K v M2 n2=true))
theorem EQ:∀{ps:List Value} {ss:List St} {n:Nat} {h:Value},ps[n]?=some h→∀s':St,(ps.zip ss).set n (h,s')=ps.zip (ss.set n s')
 |[],_,n,h,hn,_=>by simp at hn
 |p::ps,[],n,h,hn,_=>by simp
 |p::ps,t::ss,0,h,hn,s'=>by
  simp only[List.getElem?_cons_zero,Option.some.injEq]at hn
  subst hn;rfl
 |p::ps,t::ss,n+1,h,hn,s'=>by
  simp only[List.getElem?_cons_succ]at hn
  simp only[List.zip_cons_cons,List.set_cons_succ,EQ hn s']
theorem lY {f:Nat} {us:List AV} {pre:St→Prop} {post:St→AV→St→Prop} (hf:ia f us pre post) (hu:∀u∈us,qY u) (hp:∀s v s',post s v s'→qY v) {ps:List Value} {ss:List St} {n:Nat} {h:Value} {s:St} (hn:ps[n]?=some h) (hs0:ss[n]?=some s) (hpre:pre s):
  dM Tryz.prog f 1 (fun us' M' nx' K=>aq (us'= .ptr 0 0::hv h::us∧M'=OQ ps ss∧nx'=1∧∀v s',post s v s'→K v (OQ ps (ss.set n s')) 1=true)):=by
 intro us' xs E ρ G F M nx w K R hE hs hd hk hr
 obtain⟨e1,e2,e3,hk2⟩:=prB_true.1 hk
 subst e1;subst e2;subst e3
 obtain⟨D,_,c,rfl,hq,hh,hob,hinj⟩:=hs.ex
 obtain⟨m0,hm0,hlen,hS⟩:=hq 0 _ _ _ rfl
 obtain⟨c1,Rr,hperm,hat,hback⟩:=SeatsH.split hS (List.getElem?_zip_eq_some.2 ⟨hn,hs0⟩)
 have hat':=hat
 obtain⟨b,cap,Mf,nf,ρf,at0,hb,hform,hρ0,hat0,hfr,hobf,hinjf⟩:=hat.mono hm0
 obtain⟨z0,xs1,_,d3,rfl⟩:=bf hd
 obtain⟨x0,ys,d4,d1,rfl⟩:=bf d3
 have hx0:=Lz d4
 subst hx0
 show Calls Tryz.prog f (x0::ys).toArray w R
 have hE1:cK ⟨at0,E.M⟩:=⟨hat0,hE.2⟩
 have hs1:Sim ⟨at0,E.M⟩ ρf G ((c++Rr)::F) Mf nf w:=by
  refine⟨⟨[],_,c1,rfl,fun i α x Φ hi=>absurd trivial (hform.noQ i _ hi),hh.perm ?_,hobf,hinjf⟩,hs.mem,hfr⟩
  simp only[al8,List.nil_append,←amb]
  refine List.Perm.append_right _ ?_
  refine List.Perm.trans ?_ (List.Perm.append_left c hperm.symm)
  rw[←amb]
  exact List.Perm.append_right Rr List.perm_append_comm
 have hd1:ay ⟨at0,E.M⟩ ρf (.ptr 0 0::us)=some (x0::ys):=eR (by simp[den,hρ0,hb]) (AE (E:=E) (E':=⟨at0,E.M⟩) rfl hu d1)
 refine hf s Mf nf hform hpre _ _ ⟨at0,E.M⟩ ρf G _ Mf nf w (fun v M2 n2=>aq (∃s',SForm M2 n2 s'∧post s v s')) R hE1 hs1 hd1 (prB_true.2 ⟨rfl,rfl,rfl,fun v s' M2 n2 h1 h2=>prB_true.2 ⟨s',h1,h2⟩⟩) ?_
 intro v M2 n2 E2 ρ2 w2 z hK hE2 hM hpin hs2 hdv
 obtain⟨s',hf2,hpo⟩:=prB_true.1 hK
 obtain⟨D2,_,c2,rfl,hq2,hh2,hob2,hinj2⟩:=hs2.ex
 obtain⟨e0,he0,_⟩:=hob 0 _ rfl
 refine hr v (OQ ps (ss.set n s')) 1 ⟨E.at_,E2.M⟩ ρ w2 z (hk2 v s' hpo) ⟨hE.1,hE2.2⟩ hM (fun i e _ q=>q) ?_ (hp s v s' hpo E2 ⟨E.at_,E2.M⟩ ρ2 ρ z rfl hdv)
 refine⟨⟨c2++Rr,_,c++D2,rfl,fun i α x Φ hi=> ?_,hh2.perm ?_,fun i o hi=> ?_,fun i j e f o o' hi hj he hf' hb1 hb2 _=> ?_⟩,hs2.mem,hs.fresh⟩
 ·obtain⟨rfl,ho⟩:=OQ_get hi
  cases ho
  refine⟨E2.M,MLe.refl _,by simpa using hlen,?_⟩
  have:=hback s' c2 E2.M (hm0.trans hM) ⟨b,cap,M2,n2,ρ2,E2.at_,hb,hf2,hpin 0 _ (by decide) hρ0,hE2.1,hs2.fresh,hob2,hinj2⟩
  rw[EQ hn]at this
  exact this
 ·simp only[al8,←amb]
  refine List.Perm.append_right _ ?_
  refine List.Perm.append_right Rr ?_
  rw[amb]
  exact List.perm_append_comm.trans (List.Perm.append_right c List.perm_append_comm)
 ·obtain⟨rfl,rfl⟩:=OQ_get hi
  exact⟨e0,he0,.inr ⟨rfl,trivial⟩⟩
 ·obtain⟨rfl,rfl⟩:=OQ_get hi
  cases hb1
end Go.Proofs.Tryz
namespace Go.Proofs.Tryz
open Go Go.RowKit Go.Sy
open Go.Eng hiding aj
set_option maxRecDepth 1000000
set_option linter.unusedVariables false
set_option maxHeartbeats 4000000
attribute [local irreducible] aq
def An:St:=⟨0,[],[],0,0,false,[],0,0,([],[]),none,0,0,[],[],[],[],false,0,0,0,[],0⟩
def aI (ss:List St) (n:Nat):St:=(ss[n]?).getD An
theorem dW {ss:List St} {n:Nat} (h:n<ss.length):ss[n]?=some (aI ss n):=by unfold aI;rw[List.getElem?_eq_getElem h];rfl
theorem rm {ss:List St} {n:Nat}:ss.set n (aI ss n)=ss:=by
 unfold aI
 by_cases h:n<ss.length
 ·rw[List.getElem?_eq_getElem h];exact List.set_getElem_self h
 ·rw[List.set_eq_of_length_le (by omega)]
def cL (s:St):Int:=if 0<s.N then s.com else s.wc
def bU (s:St):List Ke:=if 0<s.N then s.log else s.was
def hU (s:St):St:=if 0<s.N then s else {s with wa:=true}
def fR (s:St):St:=if 0<s.N then {s with go:=eY s.m s.go s.me} else s
def gY (s:St) (x:Int):St:=if 0<s.N then {s with su:=oB s.m s.me s.su x} else s
def kq (s:St) (x:Ke):St:=if 0<s.N then {s with log:=(gT s.m s.me s.log s.com s.sh s.hs x).1,com:=(gT s.m s.me s.log s.com s.sh s.hs x).2.1,hs:=(gT s.m s.me s.log s.com s.sh s.hs x).2.2} else s
def gm (s:St) (l:List Int):St:={s with met:=l}
theorem kW {u:So}:¬0<u.er.N:=by show¬(0:Int)<0;decide
theorem Hm {now:Int}:ia 50 [aU false [.sint 0 now]] (fun s=>SI s∧s.N+1<4294967295∧0≤now∧now≤1000000000) (fun s v s2=>∃(hh:Value) (o:List Ou),v=aU false [.imm hh 33 Ou o cE]∧o.map Ou.er=(bZ now s).2∧s2=(bZ now s).1):=by
 intro s M n hf hp
 rcases hf with⟨x_,rfl,rfl,rfl,hb,h0⟩|⟨x_,v_,rfl,rfl,rfl,hb,h0⟩|⟨u_,rfl,rfl,rfl,hb⟩
 ·refine aZ Bl fun us M nx K hk=> ?_
  obtain⟨e1,e2,e3,hk9⟩:=prB_true.1 hk
  subst e1;subst e2;subst e3
  have hs:=SI.n hp.1 h0
  refine aY ⟨x_,now⟩ (aN rfl (aN ⟨hs.1,hs.2,⟨hb,h0⟩,hp.2.2.1,hp.2.2.2,hp.2.1⟩ ?_))
  exact dI (aR fun r=>iI (fun hr=>hk9 _ _ _ _ (.inr (.inl ⟨r.s,r.v,rfl,rfl,rfl,hr.2.1,hr.2.2⟩)) ⟨r.hh,r.o,rfl,congrArg Prod.snd hr.1,congrArg Prod.fst hr.1⟩) (fun _=>rfl)) (dI (aR fun r=>iI (fun hr=>hk9 _ _ _ _ (.inl ⟨r.s,rfl,rfl,rfl,hr.2.1,hr.2.2⟩) ⟨r.hh,r.o,rfl,congrArg Prod.snd hr.1,congrArg Prod.fst hr.1⟩) (fun _=>rfl)) (aR fun r=>iI (fun hr=>hk9 _ _ _ _ (.inr (.inr ⟨r.s,rfl,rfl,rfl,hr.2⟩)) ⟨r.hh,r.o,rfl,congrArg Prod.snd hr.1,congrArg Prod.fst hr.1⟩) (fun _=>rfl)))
 ·refine aZ Bj fun us M nx K hk=> ?_
  obtain⟨e1,e2,e3,hk9⟩:=prB_true.1 hk
  subst e1;subst e2;subst e3
  have hs:=SI.q hp.1 h0
  refine aY ⟨x_,v_,now⟩ (aN rfl (aN ⟨hs.1,hs.2,⟨hb,h0⟩,hp.2.2.1,hp.2.2.2,hp.2.1⟩ ?_))
  exact aR fun r=>iI (fun hr=>hk9 _ _ _ _ (.inr (.inl ⟨r.s,r.v,rfl,rfl,rfl,hr.2.1,hr.2.2⟩)) ⟨r.hh,r.o,rfl,congrArg Prod.snd hr.1,congrArg Prod.fst hr.1⟩) (fun _=>rfl)
 ·refine aZ Bk fun us M nx K hk=> ?_
  obtain⟨e1,e2,e3,hk9⟩:=prB_true.1 hk
  subst e1;subst e2;subst e3
  have hs:=SI.o hp.1
  refine aY ⟨u_,now⟩ (aN rfl (aN ⟨hs,hb,hp.2.2.1,hp.2.2.2⟩ ?_))
  exact aR fun r=>iI (fun hr=>hk9 _ _ _ _ (.inr (.inr ⟨r.s,rfl,rfl,rfl,hr.2⟩)) ⟨r.hh,r.o,rfl,congrArg Prod.snd hr.1,congrArg Prod.fst hr.1⟩) (fun _=>rfl)
theorem Hn {now:Int} {fr:Int} {m:Mg}:ia 51 [aU false [.sint 0 now],aU true [.sint 1 fr,.int 2 (.ofNat 1)],aU true [.sint 1 m.k,.int 1 (.ofNat 0),.int 1 (.ofNat 0),.sint 3 m.N,.sint 3 m.fr,.sint 3 m.c,.int 3 (.ofNat 0),.sint 4 m.b,.sint 4 m.acc,.int 1 (.ofNat 0),.int 2 (.ofNat 0),.int 3 (.ofNat 0),.int 1 (.ofNat 0),.int 1 (.ofNat 0),.int 1 (.ofNat 0),.int 1 (.ofNat 0),.int 1 (.ofNat 0),.int 1 (.ofNat 0),.int 1 (.ofNat 0),.nilS,.int 1 (.ofNat 0),.str [],.int 1 (.ofNat 0),.sint 3 m.vn,.imm m.vh 2 Int m.vl am,.sint 1 m.pn,.sint 2 m.pl,.sbool (m.has=true),.imm m.mh 2 Int m.ml am,.imm m.h 18 Ke m.l aD,.imm m.th 18 Ke m.tl aD]] (fun s=>SI s∧s.N+1<4294967295∧0≤now∧now≤1000000000∧cJ m.er∧m.vn<4294967295∧0≤fr∧fr<8) (fun s v s2=>∃(hh:Value) (o:List Ou),v=aU false [.imm hh 33 Ou o cE]∧o.map Ou.er=(bm now s fr m.er).2∧s2=(bm now s fr m.er).1):=by
 intro s M n hf hp
 rcases hf with⟨x_,rfl,rfl,rfl,hb,h0⟩|⟨x_,v_,rfl,rfl,rfl,hb,h0⟩|⟨u_,rfl,rfl,rfl,hb⟩
 ·refine aZ Bo fun us M nx K hk=> ?_
  obtain⟨e1,e2,e3,hk9⟩:=prB_true.1 hk
  subst e1;subst e2;subst e3
  have hs:=SI.n hp.1 h0
  refine aY ⟨x_,now,fr,m⟩ (aN rfl (aN ⟨hs.1,hs.2,⟨hb,h0⟩,hp.2.2.1,hp.2.2.2.1,hp.2.2.2.2.1,hp.2.2.2.2.2.1,hp.2.2.2.2.2.2.1,hp.2.2.2.2.2.2.2,hp.2.1⟩ ?_))
  exact dI (aR fun r=>iI (fun hr=>hk9 _ _ _ _ (.inl ⟨r.s,rfl,rfl,rfl,hr.2.1,hr.2.2⟩) ⟨r.hh,r.o,rfl,congrArg Prod.snd hr.1,congrArg Prod.fst hr.1⟩) (fun _=>rfl)) (aR fun r=>iI (fun hr=>hk9 _ _ _ _ (.inr (.inr ⟨r.s,rfl,rfl,rfl,hr.2⟩)) ⟨r.hh,r.o,rfl,congrArg Prod.snd hr.1,congrArg Prod.fst hr.1⟩) (fun _=>rfl))
 ·refine aZ Bm fun us M nx K hk=> ?_
  obtain⟨e1,e2,e3,hk9⟩:=prB_true.1 hk
  subst e1;subst e2;subst e3
  have hs:=SI.q hp.1 h0
  refine aY ⟨x_,v_,now,fr,m⟩ (aN rfl (aN ⟨hs.1,hs.2,⟨hb,h0⟩,hp.2.2.1,hp.2.2.2.1,hp.2.2.2.2.1,hp.2.2.2.2.2.1,hp.2.2.2.2.2.2.1,hp.2.2.2.2.2.2.2,hp.2.1⟩ ?_))
  exact dI (aR fun r=>iI (fun hr=>hk9 _ _ _ _ (.inr (.inl ⟨r.s,r.v,rfl,rfl,rfl,hr.2.1,hr.2.2⟩)) ⟨r.hh,r.o,rfl,congrArg Prod.snd hr.1,congrArg Prod.fst hr.1⟩) (fun _=>rfl)) (dI (aR fun r=>iI (fun hr=>hk9 _ _ _ _ (.inl ⟨r.s,rfl,rfl,rfl,hr.2.1,hr.2.2⟩) ⟨r.hh,r.o,rfl,congrArg Prod.snd hr.1,congrArg Prod.fst hr.1⟩) (fun _=>rfl)) (aR fun r=>iI (fun hr=>hk9 _ _ _ _ (.inr (.inr ⟨r.s,rfl,rfl,rfl,hr.2⟩)) ⟨r.hh,r.o,rfl,congrArg Prod.snd hr.1,congrArg Prod.fst hr.1⟩) (fun _=>rfl)))
 ·refine aZ Bn fun us M nx K hk=> ?_
  obtain⟨e1,e2,e3,hk9⟩:=prB_true.1 hk
  subst e1;subst e2;subst e3
  have hs:=SI.o hp.1
  refine aY ⟨u_,now,fr,m⟩ (aN rfl (aN ⟨hs,hb,hp.2.2.1,hp.2.2.2.1,hp.2.2.2.2.1,hp.2.2.2.2.2.1,hp.2.2.2.2.2.2.1,hp.2.2.2.2.2.2.2⟩ ?_))
  exact dI (aR fun r=>iI (fun hr=>hk9 _ _ _ _ (.inl ⟨r.s,rfl,rfl,rfl,hr.2.1,hr.2.2⟩) ⟨r.hh,r.o,rfl,congrArg Prod.snd hr.1,congrArg Prod.fst hr.1⟩) (fun _=>rfl)) (aR fun r=>iI (fun hr=>hk9 _ _ _ _ (.inr (.inr ⟨r.s,rfl,rfl,rfl,hr.2⟩)) ⟨r.hh,r.o,rfl,congrArg Prod.snd hr.1,congrArg Prod.fst hr.1⟩) (fun _=>rfl))
theorem NU:ia 19 [] (fun s=>SI s) (fun s v s2=>∃(z:Prop),v=aU false [.sbool z]∧(z↔0<s.N)∧s2=s):=by
 intro s M n hf hp
 replace hp:=And.intro hp trivial
 rcases hf with⟨x_,rfl,rfl,rfl,hb,h0⟩|⟨x_,v_,rfl,rfl,rfl,hb,h0⟩|⟨u_,rfl,rfl,rfl,hb⟩
 ·refine aZ XL fun us M nx K hk=> ?_
  obtain⟨e1,e2,e3,hk9⟩:=prB_true.1 hk
  subst e1;subst e2;subst e3
  have hs:=SI.n hp.1 h0
  refine aY ⟨x_⟩ (aN rfl (aN hs.1 ?_))
  refine aR fun r=>iI (fun hr=>hk9 _ _ _ _ (.inl ⟨x_,rfl,rfl,rfl,hb,h0⟩) ⟨r.z,rfl,hr,rfl⟩) (fun _=>rfl)
 ·refine aZ XJ fun us M nx K hk=> ?_
  obtain⟨e1,e2,e3,hk9⟩:=prB_true.1 hk
  subst e1;subst e2;subst e3
  have hs:=SI.q hp.1 h0
  refine aY ⟨x_,v_⟩ (aN rfl (aN hs.1 ?_))
  refine aR fun r=>iI (fun hr=>hk9 _ _ _ _ (.inr (.inl ⟨x_,v_,rfl,rfl,rfl,hb,h0⟩)) ⟨r.z,rfl,hr,rfl⟩) (fun _=>rfl)
 ·refine aZ XK fun us M nx K hk=> ?_
  obtain⟨e1,e2,e3,hk9⟩:=prB_true.1 hk
  subst e1;subst e2;subst e3
  have hs:=SI.o hp.1
  refine aY ⟨u_⟩ (aN rfl (aN hs ?_))
  refine aR fun r=>iI (fun hr=>hk9 _ _ _ _ (.inr (.inr ⟨u_,rfl,rfl,rfl,hb⟩)) ⟨r.z,rfl,hr,rfl⟩) (fun _=>rfl)
theorem NW:ia 12 [] (fun s=>SI s) (fun s v s2=>∃(z:Int),v=aU false [.sint 0 z]∧z=cL s∧s2=s):=by
 intro s M n hf hp
 replace hp:=And.intro hp trivial
 rcases hf with⟨x_,rfl,rfl,rfl,hb,h0⟩|⟨x_,v_,rfl,rfl,rfl,hb,h0⟩|⟨u_,rfl,rfl,rfl,hb⟩
 ·refine aZ XQ fun us M nx K hk=> ?_
  obtain⟨e1,e2,e3,hk9⟩:=prB_true.1 hk
  subst e1;subst e2;subst e3
  have hs:=SI.n hp.1 h0
  refine aY ⟨x_⟩ (aN rfl (aN hs.1 ?_))
  refine aR fun r=>iI (fun hr=>hk9 _ _ _ _ (.inl ⟨x_,rfl,rfl,rfl,hb,h0⟩) ⟨r.z,rfl,by unfold cL;rw[if_pos (show 0<(x_.er none).N from h0)];exact hr,rfl⟩) (fun _=>rfl)
 ·refine aZ XM fun us M nx K hk=> ?_
  obtain⟨e1,e2,e3,hk9⟩:=prB_true.1 hk
  subst e1;subst e2;subst e3
  have hs:=SI.q hp.1 h0
  refine aY ⟨x_,v_⟩ (aN rfl (aN hs.1 ?_))
  refine aR fun r=>iI (fun hr=>hk9 _ _ _ _ (.inr (.inl ⟨x_,v_,rfl,rfl,rfl,hb,h0⟩)) ⟨r.z,rfl,by unfold cL;rw[if_pos (show 0<(x_.er (some v_.er)).N from h0)];exact hr,rfl⟩) (fun _=>rfl)
 ·refine aZ XN fun us M nx K hk=> ?_
  obtain⟨e1,e2,e3,hk9⟩:=prB_true.1 hk
  subst e1;subst e2;subst e3
  have hs:=SI.o hp.1
  refine aY ⟨u_⟩ (aN rfl (aN hs ?_))
  refine aR fun r=>iI (fun hr=>hk9 _ _ _ _ (.inr (.inr ⟨u_,rfl,rfl,rfl,hb⟩)) ⟨r.z,rfl,by unfold cL;rw[if_neg kW];exact hr,rfl⟩) (fun _=>rfl)
theorem NR:ia 13 [] (fun s=>SI s) (fun s v s2=>∃(hh:Value) (o:List Ke),v=aU false [.imm hh 18 Ke o aD]∧o=bU s∧s2=s):=by
 intro s M n hf hp
 replace hp:=And.intro hp trivial
 rcases hf with⟨x_,rfl,rfl,rfl,hb,h0⟩|⟨x_,v_,rfl,rfl,rfl,hb,h0⟩|⟨u_,rfl,rfl,rfl,hb⟩
 ·refine aZ XA fun us M nx K hk=> ?_
  obtain⟨e1,e2,e3,hk9⟩:=prB_true.1 hk
  subst e1;subst e2;subst e3
  have hs:=SI.n hp.1 h0
  refine aY ⟨x_⟩ (aN rfl (aN hs.1 ?_))
  refine aR fun r=>iI (fun hr=>hk9 _ _ _ _ (.inl ⟨x_,rfl,rfl,rfl,hb,h0⟩) ⟨r.h,r.o,rfl,by unfold bU;rw[if_pos (show 0<(x_.er none).N from h0)];exact hr,rfl⟩) (fun _=>rfl)
 ·refine aZ Xy fun us M nx K hk=> ?_
  obtain⟨e1,e2,e3,hk9⟩:=prB_true.1 hk
  subst e1;subst e2;subst e3
  have hs:=SI.q hp.1 h0
  refine aY ⟨x_,v_⟩ (aN rfl (aN hs.1 ?_))
  refine aR fun r=>iI (fun hr=>hk9 _ _ _ _ (.inr (.inl ⟨x_,v_,rfl,rfl,rfl,hb,h0⟩)) ⟨r.h,r.o,rfl,by unfold bU;rw[if_pos (show 0<(x_.er (some v_.er)).N from h0)];exact hr,rfl⟩) (fun _=>rfl)
 ·refine aZ Xz fun us M nx K hk=> ?_
  obtain⟨e1,e2,e3,hk9⟩:=prB_true.1 hk
  subst e1;subst e2;subst e3
  have hs:=SI.o hp.1
  refine aY ⟨u_⟩ (aN rfl (aN hs ?_))
  refine aR fun r=>iI (fun hr=>hk9 _ _ _ _ (.inr (.inr ⟨u_,rfl,rfl,rfl,hb⟩)) ⟨r.h,r.o,rfl,by unfold bU;rw[if_neg kW];exact hr,rfl⟩) (fun _=>rfl)
theorem NM:ia 16 [] (fun s=>SI s) (fun s v s2=>∃(N:Int) (hh:Value) (m:List Int),v=aU true [.int 1 (.ofNat 0),.sint 3 N,.imm hh 2 Int m am]∧(N=s.N∧m=s.m)∧s2=s):=by
 intro s M n hf hp
 replace hp:=And.intro hp trivial
 rcases hf with⟨x_,rfl,rfl,rfl,hb,h0⟩|⟨x_,v_,rfl,rfl,rfl,hb,h0⟩|⟨u_,rfl,rfl,rfl,hb⟩
 ·refine aZ Xo fun us M nx K hk=> ?_
  obtain⟨e1,e2,e3,hk9⟩:=prB_true.1 hk
  subst e1;subst e2;subst e3
  have hs:=SI.n hp.1 h0
  refine aY ⟨x_⟩ (aN rfl (aN hs.1 ?_))
  refine aR fun r=>iI (fun hr=>hk9 _ _ _ _ (.inl ⟨x_,rfl,rfl,rfl,hb,h0⟩) ⟨r.N,r.h,r.m,rfl,hr,rfl⟩) (fun _=>rfl)
 ·refine aZ Xm fun us M nx K hk=> ?_
  obtain⟨e1,e2,e3,hk9⟩:=prB_true.1 hk
  subst e1;subst e2;subst e3
  have hs:=SI.q hp.1 h0
  refine aY ⟨x_,v_⟩ (aN rfl (aN hs.1 ?_))
  refine aR fun r=>iI (fun hr=>hk9 _ _ _ _ (.inr (.inl ⟨x_,v_,rfl,rfl,rfl,hb,h0⟩)) ⟨r.N,r.h,r.m,rfl,hr,rfl⟩) (fun _=>rfl)
 ·refine aZ Xn fun us M nx K hk=> ?_
  obtain⟨e1,e2,e3,hk9⟩:=prB_true.1 hk
  subst e1;subst e2;subst e3
  have hs:=SI.o hp.1
  refine aY ⟨u_⟩ (aN rfl (aN hs ?_))
  refine aR fun r=>iI (fun hr=>hk9 _ _ _ _ (.inr (.inr ⟨u_,rfl,rfl,rfl,hb⟩)) ⟨r.N,r.h,r.m,rfl,hr,rfl⟩) (fun _=>rfl)
theorem NQ {mh:Value} {ml:List Int}:ia 27 [aU false [.imm mh 2 Int ml am]] (fun s=>SI s∧ml.length≤1000) (fun s v s2=>v= .tup []∧s2=(gm s ml)):=by
 intro s M n hf hp
 rcases hf with⟨x_,rfl,rfl,rfl,hb,h0⟩|⟨x_,v_,rfl,rfl,rfl,hb,h0⟩|⟨u_,rfl,rfl,rfl,hb⟩
 ·refine aZ Xx fun us M nx K hk=> ?_
  obtain⟨e1,e2,e3,hk9⟩:=prB_true.1 hk
  subst e1;subst e2;subst e3
  have hs:=SI.n hp.1 h0
  refine aY ⟨x_,mh,ml⟩ (aN rfl (aN ⟨hs.1,hp.2⟩ ?_))
  refine aR fun r=>iI (fun hr=>hk9 _ _ _ _ (.inl ⟨({x_ with th:=r.th,met:=r.met}:Si),rfl,rfl,rfl,hb,h0⟩) ⟨rfl,by unfold gm;exact congrArg (fun z=>({(x_.er none) with met:=z}:St)) hr⟩) (fun _=>rfl)
 ·refine aZ Xv fun us M nx K hk=> ?_
  obtain⟨e1,e2,e3,hk9⟩:=prB_true.1 hk
  subst e1;subst e2;subst e3
  have hs:=SI.q hp.1 h0
  refine aY ⟨x_,v_,mh,ml⟩ (aN rfl (aN ⟨hs.1,hp.2⟩ ?_))
  refine aR fun r=>iI (fun hr=>hk9 _ _ _ _ (.inr (.inl ⟨({x_ with th:=r.th,met:=r.met}:Si),v_,rfl,rfl,rfl,hb,h0⟩)) ⟨rfl,by unfold gm;exact congrArg (fun z=>({(x_.er (some v_.er)) with met:=z}:St)) hr⟩) (fun _=>rfl)
 ·refine aZ Xw fun us M nx K hk=> ?_
  obtain⟨e1,e2,e3,hk9⟩:=prB_true.1 hk
  subst e1;subst e2;subst e3
  have hs:=SI.o hp.1
  refine aY ⟨u_,mh,ml⟩ (aN rfl (aN ⟨hs,hp.2⟩ ?_))
  refine aR fun r=>iI (fun hr=>hk9 _ _ _ _ (.inr (.inr ⟨({u_ with th:=r.th,met:=r.met}:So),rfl,rfl,rfl,hb⟩)) ⟨rfl,by unfold gm;exact congrArg (fun z=>({u_.er with met:=z}:St)) hr⟩) (fun _=>rfl)
theorem NT:ia 17 [] (fun s=>SI s) (fun s v s2=>v= .tup []∧s2=(hU s)):=by
 intro s M n hf hp
 replace hp:=And.intro hp trivial
 rcases hf with⟨x_,rfl,rfl,rfl,hb,h0⟩|⟨x_,v_,rfl,rfl,rfl,hb,h0⟩|⟨u_,rfl,rfl,rfl,hb⟩
 ·refine aZ XI fun us M nx K hk=> ?_
  obtain⟨e1,e2,e3,hk9⟩:=prB_true.1 hk
  subst e1;subst e2;subst e3
  have hs:=SI.n hp.1 h0
  refine aY ⟨x_⟩ (aN rfl (aN hs.1 ?_))
  refine aR fun r=>iI (fun hr=>hk9 _ _ _ _ (.inl ⟨({x_ with wa:=r.wa}:Si),rfl,rfl,rfl,hb,h0⟩) ⟨rfl,by unfold hU;rw[if_pos (show 0<(x_.er none).N from h0)];exact congrArg (fun z=>({(x_.er none) with wa:=z}:St)) hr⟩) (fun _=>rfl)
 ·refine aZ XG fun us M nx K hk=> ?_
  obtain⟨e1,e2,e3,hk9⟩:=prB_true.1 hk
  subst e1;subst e2;subst e3
  have hs:=SI.q hp.1 h0
  refine aY ⟨x_,v_⟩ (aN rfl (aN hs.1 ?_))
  refine aR fun r=>iI (fun hr=>hk9 _ _ _ _ (.inr (.inl ⟨({x_ with wa:=r.wa}:Si),v_,rfl,rfl,rfl,hb,h0⟩)) ⟨rfl,by unfold hU;rw[if_pos (show 0<(x_.er (some v_.er)).N from h0)];exact congrArg (fun z=>({(x_.er (some v_.er)) with wa:=z}:St)) hr⟩) (fun _=>rfl)
 ·refine aZ XH fun us M nx K hk=> ?_
  obtain⟨e1,e2,e3,hk9⟩:=prB_true.1 hk
  subst e1;subst e2;subst e3
  have hs:=SI.o hp.1
  refine aY ⟨u_⟩ (aN rfl (aN hs ?_))
  refine aR fun r=>iI (fun hr=>hk9 _ _ _ _ (.inr (.inr ⟨({u_ with wa:=r.wa}:So),rfl,rfl,rfl,hb⟩)) ⟨rfl,by unfold hU;rw[if_neg kW];exact congrArg (fun z=>({u_.er with wa:=z}:St)) hr⟩) (fun _=>rfl)
theorem NS:ia 18 [] (fun s=>SI s) (fun s v s2=>v= .tup []∧s2=(fR s)):=by
 intro s M n hf hp
 replace hp:=And.intro hp trivial
 rcases hf with⟨x_,rfl,rfl,rfl,hb,h0⟩|⟨x_,v_,rfl,rfl,rfl,hb,h0⟩|⟨u_,rfl,rfl,rfl,hb⟩
 ·refine aZ XE fun us M nx K hk=> ?_
  obtain⟨e1,e2,e3,hk9⟩:=prB_true.1 hk
  subst e1;subst e2;subst e3
  have hs:=SI.n hp.1 h0
  refine aY ⟨x_⟩ (aN rfl (aN hs.1 ?_))
  refine aR fun r=>iI (fun hr=>hk9 _ _ _ _ (.inl ⟨({x_ with go:=r.go}:Si),rfl,rfl,rfl,hb,h0⟩) ⟨rfl,by unfold fR;rw[if_pos (show 0<(x_.er none).N from h0)];exact congrArg (fun z=>({(x_.er none) with go:=z}:St)) hr⟩) (fun _=>rfl)
 ·refine aZ XB fun us M nx K hk=> ?_
  obtain⟨e1,e2,e3,hk9⟩:=prB_true.1 hk
  subst e1;subst e2;subst e3
  have hs:=SI.q hp.1 h0
  refine aY ⟨x_,v_⟩ (aN rfl (aN hs.1 ?_))
  refine aR fun r=>iI (fun hr=>hk9 _ _ _ _ (.inr (.inl ⟨({x_ with go:=r.go}:Si),v_,rfl,rfl,rfl,hb,h0⟩)) ⟨rfl,by unfold fR;rw[if_pos (show 0<(x_.er (some v_.er)).N from h0)];exact congrArg (fun z=>({(x_.er (some v_.er)) with go:=z}:St)) hr⟩) (fun _=>rfl)
 ·refine aZ XD fun us M nx K hk=> ?_
  obtain⟨e1,e2,e3,hk9⟩:=prB_true.1 hk
  subst e1;subst e2;subst e3
  have hs:=SI.o hp.1
  refine aY ⟨u_⟩ (aN rfl (aN hs ?_))
  refine aR fun r=>iI (fun hr=>hk9 _ _ _ _ (.inr (.inr ⟨({u_ with go:=r.go}:So),rfl,rfl,rfl,hb⟩)) ⟨rfl,by unfold fR;rw[if_neg kW];exact congrArg (fun z=>({u_.er with go:=z}:St)) hr⟩) (fun _=>rfl)
theorem NO {x:Int}:ia 20 [aU true [.sint 1 x,.int 2 (.ofNat 1)]] (fun s=>SI s) (fun s v s2=>v= .tup []∧s2=(gY s x)):=by
 intro s M n hf hp
 replace hp:=And.intro hp trivial
 rcases hf with⟨x_,rfl,rfl,rfl,hb,h0⟩|⟨x_,v_,rfl,rfl,rfl,hb,h0⟩|⟨u_,rfl,rfl,rfl,hb⟩
 ·refine aZ Xr fun us M nx K hk=> ?_
  obtain⟨e1,e2,e3,hk9⟩:=prB_true.1 hk
  subst e1;subst e2;subst e3
  have hs:=SI.n hp.1 h0
  refine aY ⟨x_,x⟩ (aN rfl (aN hs.1 ?_))
  refine aR fun r=>iI (fun hr=>hk9 _ _ _ _ (.inl ⟨({x_ with su:=r.su}:Si),rfl,rfl,rfl,hb,h0⟩) ⟨rfl,by unfold gY;rw[if_pos (show 0<(x_.er none).N from h0)];exact congrArg (fun z=>({(x_.er none) with su:=z}:St)) hr⟩) (fun _=>rfl)
 ·refine aZ Xp fun us M nx K hk=> ?_
  obtain⟨e1,e2,e3,hk9⟩:=prB_true.1 hk
  subst e1;subst e2;subst e3
  have hs:=SI.q hp.1 h0
  refine aY ⟨x_,v_,x⟩ (aN rfl (aN hs.1 ?_))
  refine aR fun r=>iI (fun hr=>hk9 _ _ _ _ (.inr (.inl ⟨({x_ with su:=r.su}:Si),v_,rfl,rfl,rfl,hb,h0⟩)) ⟨rfl,by unfold gY;rw[if_pos (show 0<(x_.er (some v_.er)).N from h0)];exact congrArg (fun z=>({(x_.er (some v_.er)) with su:=z}:St)) hr⟩) (fun _=>rfl)
 ·refine aZ Xq fun us M nx K hk=> ?_
  obtain⟨e1,e2,e3,hk9⟩:=prB_true.1 hk
  subst e1;subst e2;subst e3
  have hs:=SI.o hp.1
  refine aY ⟨u_,x⟩ (aN rfl (aN hs ?_))
  refine aR fun r=>iI (fun hr=>hk9 _ _ _ _ (.inr (.inr ⟨({u_ with su:=r.su}:So),rfl,rfl,rfl,hb⟩)) ⟨rfl,by unfold gY;rw[if_neg kW];exact congrArg (fun z=>({u_.er with su:=z}:St)) hr⟩) (fun _=>rfl)
theorem NP {x:Ke}:ia 24 [aU true [.int 1 (.ofNat 2),.int 1 (.ofNat 0),.int 2 (.ofNat 0),.int 3 (.ofNat 0),.int 1 (.ofNat 0),.int 1 (.ofNat 0),.int 1 (.ofNat 0),.int 1 (.ofNat 0),.int 1 (.ofNat 0),.int 1 (.ofNat 0),.int 1 (.ofNat 0),.int 3 (.ofNat 0),.nilS,.int 1 (.ofNat 0),.str [],.nilS,.sint 1 x.v,.sint 2 x.w]] (fun s=>SI s∧vQ x) (fun s v s2=>∃(z:Int),v=aU false [.sint 0 z]∧True∧s2=(kq s x)):=by
 intro s M n hf hp
 rcases hf with⟨x_,rfl,rfl,rfl,hb,h0⟩|⟨x_,v_,rfl,rfl,rfl,hb,h0⟩|⟨u_,rfl,rfl,rfl,hb⟩
 ·refine aZ Xu fun us M nx K hk=> ?_
  obtain⟨e1,e2,e3,hk9⟩:=prB_true.1 hk
  subst e1;subst e2;subst e3
  have hs:=SI.n hp.1 h0
  refine aY ⟨x_,x⟩ (aN rfl (aN ⟨hs.1,hp.2⟩ ?_))
  refine aR fun r=>iI (fun hr=>hk9 _ _ _ _ (.inl ⟨({x_ with log:=r.log,com:=r.com,hs:=r.hs}:Si),rfl,rfl,rfl,hb,h0⟩) ⟨r.z,rfl,trivial,by unfold kq;rw[if_pos (show 0<(x_.er none).N from h0)];exact congrArg (fun z=>({(x_.er none) with log:=z.1,com:=z.2.1,hs:=z.2.2}:St)) hr⟩) (fun _=>rfl)
 ·refine aZ Xs fun us M nx K hk=> ?_
  obtain⟨e1,e2,e3,hk9⟩:=prB_true.1 hk
  subst e1;subst e2;subst e3
  have hs:=SI.q hp.1 h0
  refine aY ⟨x_,v_,x⟩ (aN rfl (aN ⟨hs.1,hp.2⟩ ?_))
  refine aR fun r=>iI (fun hr=>hk9 _ _ _ _ (.inr (.inl ⟨({x_ with log:=r.log,com:=r.com,hs:=r.hs}:Si),v_,rfl,rfl,rfl,hb,h0⟩)) ⟨r.z,rfl,trivial,by unfold kq;rw[if_pos (show 0<(x_.er (some v_.er)).N from h0)];exact congrArg (fun z=>({(x_.er (some v_.er)) with log:=z.1,com:=z.2.1,hs:=z.2.2}:St)) hr⟩) (fun _=>rfl)
 ·refine aZ Xt fun us M nx K hk=> ?_
  obtain⟨e1,e2,e3,hk9⟩:=prB_true.1 hk
  subst e1;subst e2;subst e3
  have hs:=SI.o hp.1
  refine aY ⟨u_,x⟩ (aN rfl (aN ⟨hs,hp.2⟩ ?_))
  refine aR fun r=>iI (fun hr=>hk9 _ _ _ _ (.inr (.inr ⟨u_,rfl,rfl,rfl,hb⟩)) ⟨r.z,rfl,trivial,by unfold kq;rw[if_neg kW]⟩) (fun _=>rfl)
structure lD where
 ps:List Value
 ss:List St
 n:Nat
 h:Value
 now:Int
structure GF where
 hh:Value
 o:List Ou
def tc (p:lD) (r:GF):Prop:=r.o.map Ou.er=(bZ p.now (aI p.ss p.n)).2
noncomputable def jx (p:lD):IE:=([.ptr 0 0,hv p.h,.sy (.int 0 p.now)],(.node .leaf (some (.opq (List Value×List St) (p.ps,p.ss) bJ)) .leaf),1)
noncomputable def BK (p:lD) (K:KE) (r:GF):Bool:=K (.sy (.imm r.hh 33 Ou r.o cE)) (.node .leaf (some (.opq (List Value×List St) (p.ps,p.ss.set p.n (bZ p.now (aI p.ss p.n)).1) bJ)) .leaf) 1
noncomputable def jS (p:lD) (K:KE):Bool:=aj fun r=>iP (tc p r) (BK p K r) true
def jQ (p:lD):Prop:=p.ps[p.n]?=some p.h∧p.n<p.ss.length∧SI (aI p.ss p.n)∧(aI p.ss p.n).N+1<4294967295∧0≤p.now∧p.now≤1000000000
theorem ZZ {s:IE} {K:KE} (w:lD) (e:∀t,jx w=t→s=t:=by first|(intro t h;dsimp only[jx]at h;subst h;exact rfl)|fail) (g:jQ w:=by first|((try dsimp only[jQ,oL,oN,Int.reduceNegSucc]);first|done|exact yg|trivial|assumption|omega)|fail) (h:jS w K=true):Cl s jx jQ jS K:=wS w e g h
theorem Oj:dM Tryz.prog 50 1 (fY jx (jO jQ jS)):=by
 intro us xs E ρ G F M nx w K R hE hs hd hk0 hr
 obtain⟨p,hk1⟩:=bk hk0
 obtain⟨hI,hk2⟩:=ai hk1
 obtain⟨hpre,hk3⟩:=ai (show ae (aq (jQ p)) (jS p K)=true from hk2)
 clear hk0 hk1 hk2
 have e1:us=(jx p).1:=congrArg Prod.fst hI
 have e2:M=(jx p).2.1:=congrArg (fun x=>x.2.1) hI
 have e3:nx=(jx p).2.2:=congrArg (fun x=>x.2.2) hI
 subst e1;subst e2;subst e3
 refine lY (Hm (now:=p.now)) (by intro u hu;simp only[List.mem_cons,List.not_mem_nil,or_false]at hu;subst hu;exact cP _ _) (by rintro s v s2 h;obtain⟨_,_,rfl,_⟩:=h;exact cP _ _) hpre.1 (dW hpre.2.1) hpre.2.2 _ xs E ρ G F _ _ w K R hE hs hd (prB_true.2 ⟨rfl,rfl,rfl,fun v s2 hpo=> ?_⟩) hr
 obtain⟨a_0,a_1,rfl,hq,e9⟩:=hpo
 have e8:p.ss.set p.n s2=p.ss.set p.n (bZ p.now (aI p.ss p.n)).1:=by rw[e9]
 rw[e8]
 exact dV (p:=tc p ⟨a_0,a_1⟩) hq (aV hk3 ⟨a_0,a_1⟩)
noncomputable def Ko:NN:=jV br Oj [(0,30)]
structure lE where
 ps:List Value
 ss:List St
 n:Nat
 h:Value
 now:Int
 fr:Int
 m:Mg
structure GH where
 hh:Value
 o:List Ou
def td (p:lE) (r:GH):Prop:=r.o.map Ou.er=(bm p.now (aI p.ss p.n) p.fr p.m.er).2
noncomputable def jy (p:lE):IE:=([.ptr 0 0,hv p.h,.sy (.int 0 p.now),eL p.fr,kB p.m.k p.m.N p.m.fr p.m.c p.m.b p.m.acc [] p.m.vn p.m.vh p.m.vl p.m.pn p.m.pl (p.m.has=true) p.m.mh p.m.ml p.m.h p.m.l p.m.th p.m.tl],(.node .leaf (some (.opq (List Value×List St) (p.ps,p.ss) bJ)) .leaf),1)
noncomputable def BM (p:lE) (K:KE) (r:GH):Bool:=K (.sy (.imm r.hh 33 Ou r.o cE)) (.node .leaf (some (.opq (List Value×List St) (p.ps,p.ss.set p.n (bm p.now (aI p.ss p.n) p.fr p.m.er).1) bJ)) .leaf) 1
noncomputable def jT (p:lE) (K:KE):Bool:=aj fun r=>iP (td p r) (BM p K r) true
def jR (p:lE):Prop:=p.ps[p.n]?=some p.h∧p.n<p.ss.length∧SI (aI p.ss p.n)∧(aI p.ss p.n).N+1<4294967295∧0≤p.now∧p.now≤1000000000∧cJ p.m.er∧p.m.vn<4294967295∧0≤p.fr∧p.fr<8
theorem aaa {s:IE} {K:KE} (w:lE) (e:∀t,jy w=t→s=t:=by first|(intro t h;dsimp only[jy]at h;subst h;exact rfl)|fail) (g:jR w:=by first|((try dsimp only[jR,oL,oN,Int.reduceNegSucc]);first|done|exact yg|trivial|assumption|omega)|fail) (h:jT w K=true):Cl s jy jR jT K:=wS w e g h
theorem Ok:dM Tryz.prog 51 1 (fY jy (jO jR jT)):=by
 intro us xs E ρ G F M nx w K R hE hs hd hk0 hr
 obtain⟨p,hk1⟩:=bk hk0
 obtain⟨hI,hk2⟩:=ai hk1
 obtain⟨hpre,hk3⟩:=ai (show ae (aq (jR p)) (jT p K)=true from hk2)
 clear hk0 hk1 hk2
 have e1:us=(jy p).1:=congrArg Prod.fst hI
 have e2:M=(jy p).2.1:=congrArg (fun x=>x.2.1) hI
 have e3:nx=(jy p).2.2:=congrArg (fun x=>x.2.2) hI
 subst e1;subst e2;subst e3
 refine lY (Hn (now:=p.now) (fr:=p.fr) (m:=p.m)) (by intro u hu;simp only[List.mem_cons,List.not_mem_nil,or_false]at hu;rcases hu with rfl|rfl|rfl<;>exact cP _ _) (by rintro s v s2 h;obtain⟨_,_,rfl,_⟩:=h;exact cP _ _) hpre.1 (dW hpre.2.1) hpre.2.2 _ xs E ρ G F _ _ w K R hE hs hd (prB_true.2 ⟨rfl,rfl,rfl,fun v s2 hpo=> ?_⟩) hr
 obtain⟨a_0,a_1,rfl,hq,e9⟩:=hpo
 have e8:p.ss.set p.n s2=p.ss.set p.n (bm p.now (aI p.ss p.n) p.fr p.m.er).1:=by rw[e9]
 rw[e8]
 exact dV (p:=td p ⟨a_0,a_1⟩) hq (aV hk3 ⟨a_0,a_1⟩)
end Go.Proofs.Tryz
