/- Definitions and lemmas of the proof, without a condition of their own. -/
import Derived.Test.YtjhpjjbnojbikaaGreatM4
import Derived.KernelRfl
import Derived.WalkKit
import Derived.ProofKit
import Derived.OpenShut
import Derived.Below
import Derived.LaidLaws
import Derived.RowKit
set_option linter.unusedSimpArgs false
set_option linter.unusedVariables false
open Bool renaming and_eq_true→akD
open List renaming append_assoc→akt,flatten_cons→akq,length_append→akk,length_cons→akl,length_drop→akJ,length_map→akm,length_nil→akn,length_take→akA,map_cons→akr,mem_of_getElem?→akp
open Option.some renaming inj→akH
namespace Go.Proofs.Tryz
open Go Go.RowKit Go.Sy
open Go.Eng hiding aj
set_option maxRecDepth 1000000
set_option linter.unusedVariables false
set_option maxHeartbeats 4000000
attribute [local irreducible] aq
def sA (m:List Int) (me:Int) (su:List Int) (x:Int):List Int:=if x=me then su else eM m su x
theorem Ej {m su:List Int} {me x:Int} (h:x=me):su=sA m me su x:=by unfold sA;rw[if_pos h]
theorem kD {m su l:List Int} {me x:Int} (h:¬x=me) (e:l=eM m su x):l=sA m me su x:=by unfold sA;rw[if_neg h,e]
noncomputable def ft_finn':NV (aA [] [] [] 0x1679a32a3eaf1e2792c8e7da52678d403a5a0bdd5c2017):=⟨_,by conv=>rhs;reduce⟩
noncomputable abbrev XY:XF:=ft_finn'.1
theorem oO:aK Tryz.prog 19 XY=true:=by kernel_rfl
structure ahI where
 s:Si
structure agU where
 z:Prop
theorem Wv:aB Tryz.prog 19 1 (aO (fun p:ahI=>([.ptr 0 0],(dm p.s p.s p.s),9)) (fun p=>bA (p.s.er none)) (fun p K=>aj fun r:agU=>iP (r.z↔0<(p.s.er none).N) (K (.sy (.bool r.z)) (dm p.s p.s p.s) 9) true)):=nE (nat:=br) oO fun p K hpre hK=>by
 dsimp only at hpre hK ⊢
 have hs:=hpre
 have hr_:=hs.r
 have mb:=hs.r.nl.2 _ hs.r.me
 have ba0:=hs.r.ba0
 have ba1:=hs.r.ba1
 have hl_:=hs.r.len
 dsimp only[Si.er]at hr_ mb ba0 ba1 hl_
 have g3:=hs.sa0
 have g4:=hs.sa1
 have hm:=ah hs.r.nl
 have g5:=hs.r.nl
 have g6:=List.ne_nil_of_mem hs.r.me
 have g7:=hs.n0
 have g8:=hs.n1
 have g9:=ah hs.su
 have g10:=ah hs.go
 have g11:=ah hs.jo
 have g12:=hs.jo.2
 have g13:=hs.tr0
 have g14:=hs.tr1
 dsimp only[Si.er]at g3 g4 hm g5 g6 g7 g8 g9 g10 g11 g12 g13 g14
 have yg {g:Prop} (h:g:=by first|(exact mb)|fail):g:=h
 have yp {g:Prop} (h:g:=by first|(first|exact⟨fun _=>g7,fun _=>rfl⟩|exact⟨fun _=>by first|assumption|omega,fun _=>by assumption⟩|exact⟨fun h=>by simp at h,fun h=>absurd h (by show¬(0:Int)<0;decide)⟩|(exfalso;omega))|fail):g:=h
 exact wz
noncomputable def ft_fcon':NV (aA [] [] [] 0x5281e1c6ad1b18ebf62b76807745ad4f746459a5920542200b90d69014caf3e7f):=⟨_,by conv=>rhs;reduce⟩
noncomputable abbrev XZ:XF:=ft_fcon'.1
theorem oP:aK Tryz.prog 12 XZ=true:=by kernel_rfl
structure ahL where
 s:Si
structure agX where
 z:Int
theorem Wy:aB Tryz.prog 12 1 (aO (fun p:ahL=>([.ptr 0 0],(dm p.s p.s p.s),9)) (fun p=>bA (p.s.er none)) (fun p K=>aj fun r:agX=>iP (r.z=p.s.com) (K (.sy (.int 0 r.z)) (dm p.s p.s p.s) 9) true)):=nE (nat:=br) oP fun p K hpre hK=>by
 dsimp only at hpre hK ⊢
 have hs:=hpre
 have hr_:=hs.r
 have mb:=hs.r.nl.2 _ hs.r.me
 have ba0:=hs.r.ba0
 have ba1:=hs.r.ba1
 have hl_:=hs.r.len
 dsimp only[Si.er]at hr_ mb ba0 ba1 hl_
 have g3:=hs.sa0
 have g4:=hs.sa1
 have hm:=ah hs.r.nl
 have g5:=hs.r.nl
 have g6:=List.ne_nil_of_mem hs.r.me
 have g7:=hs.n0
 have g8:=hs.n1
 have g9:=ah hs.su
 have g10:=ah hs.go
 have g11:=ah hs.jo
 have g12:=hs.jo.2
 have g13:=hs.tr0
 have g14:=hs.tr1
 dsimp only[Si.er]at g3 g4 hm g5 g6 g7 g8 g9 g10 g11 g12 g13 g14
 have yg {g:Prop} (h:g:=by first|(exact mb)|(exact⟨g7,mb⟩)|fail):g:=h
 exact wz
noncomputable def ft_flon':NV (aA [] [] [] 0x74ce63c166c09deb9afd07c6505c2bb454970fa848181ea870980e3b9b5134e64df765766c2fe4):=⟨_,by conv=>rhs;reduce⟩
noncomputable abbrev XV:XF:=ft_flon'.1
theorem oJ:aK Tryz.prog 13 XV=true:=by kernel_rfl
structure ahz where
 s:Si
structure agL where
 h:Value
 o:List Ke
theorem Wm:aB Tryz.prog 13 1 (aO (fun p:ahz=>([.ptr 0 0],(dm p.s p.s p.s),9)) (fun p=>bA (p.s.er none)) (fun p K=>aj fun r:agL=>iP (r.o=p.s.log) (K (.sy (.imm r.h 18 Ke r.o aF)) (dm p.s p.s p.s) 9) true)):=nE (nat:=br) oJ fun p K hpre hK=>by
 dsimp only at hpre hK ⊢
 have hs:=hpre
 have hr_:=hs.r
 have mb:=hs.r.nl.2 _ hs.r.me
 have ba0:=hs.r.ba0
 have ba1:=hs.r.ba1
 have hl_:=hs.r.len
 dsimp only[Si.er]at hr_ mb ba0 ba1 hl_
 have g3:=hs.sa0
 have g4:=hs.sa1
 have hm:=ah hs.r.nl
 have g5:=hs.r.nl
 have g6:=List.ne_nil_of_mem hs.r.me
 have g7:=hs.n0
 have g8:=hs.n1
 have g9:=ah hs.su
 have g10:=ah hs.go
 have g11:=ah hs.jo
 have g12:=hs.jo.2
 have g13:=hs.tr0
 have g14:=hs.tr1
 dsimp only[Si.er]at g3 g4 hm g5 g6 g7 g8 g9 g10 g11 g12 g13 g14
 have nnx:=trivial
 have nnr:=trivial
 have ys {g:Prop} (h:g:=by first|(first|omega|(have e:=(hi).1;simp only[e,akA];omega);done)|fail):g:=h
 have yg {g:Prop} (h:g:=by first|(exact mb)|(exact⟨g7,mb⟩)|(first|omega|(simp only[akA,akJ];omega))|fail):g:=h
 have yp {g:Prop} (h:g:=by first|(first|exact(hi).1|exact hi|(rw[List.take_of_length_le (by omega)];exact(hi).1)|(rw[List.take_length];exact(hi).1))|fail):g:=h
 exact wz
noncomputable def ft_fvin':NV (fun e0=>aA [e0] [] [] 0x30ad6618634bd7c4583080a07748fe43f1394363da6d73e4076a13963dc707abc1299e4e7c1fadf8cd85):=⟨_,by conv=>rhs;reduce⟩
noncomputable abbrev XR:XF:=ft_fvin'.1 (eC 52 2 am)
theorem oF:aK Tryz.prog 16 XR=true:=by kernel_rfl
structure ahn where
 s:Si
structure agz where
 N:Int
 h:Value
 m:List Int
theorem Wa:aB Tryz.prog 16 1 (aO (fun p:ahn=>([.ptr 0 0],(dm p.s p.s p.s),9)) (fun p=>bA (p.s.er none)) (fun p K=>aj fun r:agz=>iP (r.N=(p.s.er none).N∧r.m=(p.s.er none).m) (K (ll r.N r.h r.m) (dm p.s p.s p.s) 9) true)):=nE (nat:=br) oF fun p K hpre hK=>by
 dsimp only at hpre hK ⊢
 have hs:=hpre
 have hr_:=hs.r
 have mb:=hs.r.nl.2 _ hs.r.me
 have ba0:=hs.r.ba0
 have ba1:=hs.r.ba1
 have hl_:=hs.r.len
 dsimp only[Si.er]at hr_ mb ba0 ba1 hl_
 have g3:=hs.sa0
 have g4:=hs.sa1
 have hm:=ah hs.r.nl
 have g5:=hs.r.nl
 have g6:=List.ne_nil_of_mem hs.r.me
 have g7:=hs.n0
 have g8:=hs.n1
 have g9:=ah hs.su
 have g10:=ah hs.go
 have g11:=ah hs.jo
 have g12:=hs.jo.2
 have g13:=hs.tr0
 have g14:=hs.tr1
 dsimp only[Si.er]at g3 g4 hm g5 g6 g7 g8 g9 g10 g11 g12 g13 g14
 have nnx:=trivial
 have yg {g:Prop} (h:g:=by first|(exact⟨g7,mb⟩)|fail):g:=h
 have yp {g:Prop} (h:g:=by first|(exact⟨rfl,rfl⟩)|fail):g:=h
 exact wz
noncomputable def ft_fmen':NV (aA [] [] [] 0x3a9a14fe0f66801e0b2f27a200a0b60ae2da0a8):=⟨_,by conv=>rhs;reduce⟩
noncomputable abbrev XU:XF:=ft_fmen'.1
theorem oI:aK Tryz.prog 27 XU=true:=by kernel_rfl
structure ahw where
 s:Si
 h:Value
 l:List Int
structure agI where
 th:Value
 met:List Int
theorem Wj:aB Tryz.prog 27 1 (aO (fun p:ahw=>([.ptr 0 0,.sy (.imm p.h 2 Int p.l am)],(dm p.s p.s p.s),9)) (fun p=>bA (p.s.er none)∧p.l.length≤1000) (fun p K=>aj fun r:agI=>iP (r.met=p.l) (K (.tup []) (dm ({p.s with th:=r.th,met:=r.met}:Si) p.s p.s) 9) true)):=nE (nat:=br) oI fun p K hpre hK=>by
 dsimp only at hpre hK ⊢
 obtain⟨hs,hx⟩:=hpre
 have hr_:=hs.r
 have mb:=hs.r.nl.2 _ hs.r.me
 have ba0:=hs.r.ba0
 have ba1:=hs.r.ba1
 have hl_:=hs.r.len
 dsimp only[Si.er]at hr_ mb ba0 ba1 hl_
 have g3:=hs.sa0
 have g4:=hs.sa1
 have hm:=ah hs.r.nl
 have g5:=hs.r.nl
 have g6:=List.ne_nil_of_mem hs.r.me
 have g7:=hs.n0
 have g8:=hs.n1
 have g9:=ah hs.su
 have g10:=ah hs.go
 have g11:=ah hs.jo
 have g12:=hs.jo.2
 have g13:=hs.tr0
 have g14:=hs.tr1
 dsimp only[Si.er]at g3 g4 hm g5 g6 g7 g8 g9 g10 g11 g12 g13 g14
 have nnx:=trivial
 have nnr:=trivial
 have yg {g:Prop} (h:g:=by first|(exact mb)|fail):g:=h
 have yp {g:Prop} (h:g:=by first|(exact(hi).1)|fail):g:=h
 exact wz
noncomputable def ft_fjon':NV (aA [] [] [] 0x1193d3d83fe25fdc36ef5c824cdc1704af116eee565e2ad):=⟨_,by conv=>rhs;reduce⟩
noncomputable abbrev XX:XF:=ft_fjon'.1
theorem oM:aK Tryz.prog 17 XX=true:=by kernel_rfl
structure ahF where
 s:Si
structure agR where
 wa:Bool
theorem Ws:aB Tryz.prog 17 1 (aO (fun p:ahF=>([.ptr 0 0],(dm p.s p.s p.s),9)) (fun p=>bA (p.s.er none)) (fun p K=>aj fun r:agR=>iP (r.wa=p.s.wa) (K (.tup []) (dm ({p.s with wa:=r.wa}:Si) p.s p.s) 9) true)):=nE (nat:=br) oM fun p K hpre hK=>by
 dsimp only at hpre hK ⊢
 have hs:=hpre
 have hr_:=hs.r
 have mb:=hs.r.nl.2 _ hs.r.me
 have ba0:=hs.r.ba0
 have ba1:=hs.r.ba1
 have hl_:=hs.r.len
 dsimp only[Si.er]at hr_ mb ba0 ba1 hl_
 have g3:=hs.sa0
 have g4:=hs.sa1
 have hm:=ah hs.r.nl
 have g5:=hs.r.nl
 have g6:=List.ne_nil_of_mem hs.r.me
 have g7:=hs.n0
 have g8:=hs.n1
 have g9:=ah hs.su
 have g10:=ah hs.go
 have g11:=ah hs.jo
 have g12:=hs.jo.2
 have g13:=hs.tr0
 have g14:=hs.tr1
 dsimp only[Si.er]at g3 g4 hm g5 g6 g7 g8 g9 g10 g11 g12 g13 g14
 have yg {g:Prop} (h:g:=by first|(exact mb)|(exact⟨g7,mb⟩)|fail):g:=h
 exact wz
noncomputable def ft_flen':NV (aA [] [] [] 0x2c731b9eb2762cba8f4dc8e438):=⟨_,by conv=>rhs;reduce⟩
noncomputable abbrev XW:XF:=ft_flen'.1
theorem oK:aK Tryz.prog 18 XW=true:=by kernel_rfl
structure ahC where
 s:Si
structure agO where
 go:List Int
theorem Wp:aB Tryz.prog 18 1 (aO (fun p:ahC=>([.ptr 0 0],(dm p.s p.s p.s),9)) (fun p=>bA (p.s.er none)) (fun p K=>aj fun r:agO=>iP (r.go=eM p.s.m p.s.go p.s.me) (K (.tup []) (dm ({p.s with go:=r.go}:Si) p.s p.s) 9) true)):=nE (nat:=br) oK fun p K hpre hK=>by
 dsimp only at hpre hK ⊢
 have hs:=hpre
 have hr_:=hs.r
 have mb:=hs.r.nl.2 _ hs.r.me
 have ba0:=hs.r.ba0
 have ba1:=hs.r.ba1
 have hl_:=hs.r.len
 dsimp only[Si.er]at hr_ mb ba0 ba1 hl_
 have g3:=hs.sa0
 have g4:=hs.sa1
 have hm:=ah hs.r.nl
 have g5:=hs.r.nl
 have g6:=List.ne_nil_of_mem hs.r.me
 have g7:=hs.n0
 have g8:=hs.n1
 have g9:=ah hs.su
 have g10:=ah hs.go
 have g11:=ah hs.jo
 have g12:=hs.jo.2
 have g13:=hs.tr0
 have g14:=hs.tr1
 dsimp only[Si.er]at g3 g4 hm g5 g6 g7 g8 g9 g10 g11 g12 g13 g14
 have nnr:=trivial
 have yg {g:Prop} (h:g:=by first|(exact⟨g7,mb⟩)|(exact⟨hm,g10⟩)|fail):g:=h
 have yp {g:Prop} (h:g:=by first|(first|exact hi|rfl)|fail):g:=h
 exact wz
noncomputable def ft_fsun':NV (aA [] [] [] 0x16c0182e1748c430da39d0ad646974573065c60cc772f0ebb1ca9b76c56583d34441a146729437):=⟨_,by conv=>rhs;reduce⟩
noncomputable abbrev XS:XF:=ft_fsun'.1
theorem oG:aK Tryz.prog 20 XS=true:=by kernel_rfl
structure ahq where
 s:Si
 x:Int
structure agC where
 su:List Int
theorem Wd:aB Tryz.prog 20 1 (aO (fun p:ahq=>([.ptr 0 0,eu p.x],(dm p.s p.s p.s),9)) (fun p=>bA (p.s.er none)) (fun p K=>aj fun r:agC=>iP (r.su=sA p.s.m p.s.me p.s.su p.x) (K (.tup []) (dm ({p.s with su:=r.su}:Si) p.s p.s) 9) true)):=nE (nat:=br) oG fun p K hpre hK=>by
 dsimp only at hpre hK ⊢
 have hs:=hpre
 have hr_:=hs.r
 have mb:=hs.r.nl.2 _ hs.r.me
 have ba0:=hs.r.ba0
 have ba1:=hs.r.ba1
 have hl_:=hs.r.len
 dsimp only[Si.er]at hr_ mb ba0 ba1 hl_
 have g3:=hs.sa0
 have g4:=hs.sa1
 have hm:=ah hs.r.nl
 have g5:=hs.r.nl
 have g6:=List.ne_nil_of_mem hs.r.me
 have g7:=hs.n0
 have g8:=hs.n1
 have g9:=ah hs.su
 have g10:=ah hs.go
 have g11:=ah hs.jo
 have g12:=hs.jo.2
 have g13:=hs.tr0
 have g14:=hs.tr1
 dsimp only[Si.er]at g3 g4 hm g5 g6 g7 g8 g9 g10 g11 g12 g13 g14
 have nnq:=trivial
 have ys {g:Prop} (h:g:=by first|(simp[bU];omega;done)|fail):g:=h
 have yg {g:Prop} (h:g:=by first|(exact⟨g7,mb⟩)|fail):g:=h
 have yp {g:Prop} (h:g:=by first|(first|exact Ej (by first|assumption|exact Classical.not_not.1 (by assumption))|exact kD (by assumption) (kH (.inl (by assumption)))|exact kD (by assumption) (kH (.inr (by first|assumption|exact Classical.not_not.1 (by assumption))))|exact kD (by assumption) (sV (by first|assumption|exact Classical.not_not.1 (by assumption)) (by assumption)))|fail):g:=h
 have yq {g:Prop} (h:g:=by first|(refine wX [_] (by first|exact sd|exact ys) ?_;exact wz)|fail):g:=h
 exact wz
noncomputable def ft_fsbn':NV (aA [] [] [] 0x7cea0b18b1a180967d66051eee5a9efb0f52b4413f70f488624d5e7f68a6396073f54f5fd59c0262d609):=⟨_,by conv=>rhs;reduce⟩
noncomputable abbrev XT:XF:=ft_fsbn'.1
theorem oH:aK Tryz.prog 24 XT=true:=by kernel_rfl
structure aht where
 s:Si
 x:Ke
structure agF where
 z:Int
 log:List Ke
 com:Int
 hs:List (Int×Int)
theorem Wg:aB Tryz.prog 24 1 (aO (fun p:aht=>([.ptr 0 0,Aq [] p.x.v p.x.w],(dm p.s p.s p.s),9)) (fun p=>bA (p.s.er none)∧vF p.x) (fun p K=>aj fun r:agF=>iP ((r.log,r.com,r.hs)=gX p.s.m p.s.me p.s.log p.s.com p.s.sh p.s.hs p.x) (K (.sy (.int 0 r.z)) (dm p.s ({p.s with log:=r.log,com:=r.com,hs:=r.hs}:Si) p.s) 9) true)):=nE (nat:=br) oH fun p K hpre hK=>by
 dsimp only at hpre hK ⊢
 obtain⟨hs,hx⟩:=hpre
 have hr_:=hs.r
 have mb:=hs.r.nl.2 _ hs.r.me
 have ba0:=hs.r.ba0
 have ba1:=hs.r.ba1
 have hl_:=hs.r.len
 dsimp only[Si.er]at hr_ mb ba0 ba1 hl_
 have g3:=hs.sa0
 have g4:=hs.sa1
 have hm:=ah hs.r.nl
 have g5:=hs.r.nl
 have g6:=List.ne_nil_of_mem hs.r.me
 have g7:=hs.n0
 have g8:=hs.n1
 have g9:=ah hs.su
 have g10:=ah hs.go
 have g11:=ah hs.jo
 have g12:=hs.jo.2
 have g13:=hs.tr0
 have g14:=hs.tr1
 dsimp only[Si.er]at g3 g4 hm g5 g6 g7 g8 g9 g10 g11 g12 g13 g14
 have nnr:=trivial
 have yg {g:Prop} (h:g:=by first|(exact mb)|(exact⟨g7,mb⟩)|(exact⟨hr_,hx⟩)|fail):g:=h
 have yp {g:Prop} (h:g:=by first|(exact hi)|fail):g:=h
 have yq {g:Prop} (h:g:=by first|(refine cn (.mk _ _ _ _ _ _ _ _ _ (.mk ..) ..) (h:= ?_);exact wo)|fail):g:=h
 exact wz
structure ahG where
 s:Si
 v:Qi
structure agS where
 z:Prop
theorem Wt:aB Tryz.prog 19 1 (aO (fun p:ahG=>([.ptr 0 0],(dl p.s p.s p.s p.s p.v),11)) (fun p=>bA (p.s.er none)) (fun p K=>aj fun r:agS=>iP (r.z↔0<(p.s.er (some p.v.er)).N) (K (.sy (.bool r.z)) (dl p.s p.s p.s p.s p.v) 11) true)):=nE (nat:=br) oO fun p K hpre hK=>by
 dsimp only at hpre hK ⊢
 have hs:=hpre
 have hr_:=hs.r
 have mb:=hs.r.nl.2 _ hs.r.me
 have ba0:=hs.r.ba0
 have ba1:=hs.r.ba1
 have hl_:=hs.r.len
 dsimp only[Si.er]at hr_ mb ba0 ba1 hl_
 have g3:=hs.sa0
 have g4:=hs.sa1
 have hm:=ah hs.r.nl
 have g5:=hs.r.nl
 have g6:=List.ne_nil_of_mem hs.r.me
 have g7:=hs.n0
 have g8:=hs.n1
 have g9:=ah hs.su
 have g10:=ah hs.go
 have g11:=ah hs.jo
 have g12:=hs.jo.2
 have g13:=hs.tr0
 have g14:=hs.tr1
 dsimp only[Si.er]at g3 g4 hm g5 g6 g7 g8 g9 g10 g11 g12 g13 g14
 have yg {g:Prop} (h:g:=by first|(exact mb)|fail):g:=h
 have yp {g:Prop} (h:g:=by first|(first|exact⟨fun _=>g7,fun _=>rfl⟩|exact⟨fun _=>by first|assumption|omega,fun _=>by assumption⟩|exact⟨fun h=>by simp at h,fun h=>absurd h (by show¬(0:Int)<0;decide)⟩|(exfalso;omega))|fail):g:=h
 exact wz
structure ahJ where
 s:Si
 v:Qi
structure agV where
 z:Int
theorem Ww:aB Tryz.prog 12 1 (aO (fun p:ahJ=>([.ptr 0 0],(dl p.s p.s p.s p.s p.v),11)) (fun p=>bA (p.s.er none)) (fun p K=>aj fun r:agV=>iP (r.z=p.s.com) (K (.sy (.int 0 r.z)) (dl p.s p.s p.s p.s p.v) 11) true)):=nE (nat:=br) oP fun p K hpre hK=>by
 dsimp only at hpre hK ⊢
 have hs:=hpre
 have hr_:=hs.r
 have mb:=hs.r.nl.2 _ hs.r.me
 have ba0:=hs.r.ba0
 have ba1:=hs.r.ba1
 have hl_:=hs.r.len
 dsimp only[Si.er]at hr_ mb ba0 ba1 hl_
 have g3:=hs.sa0
 have g4:=hs.sa1
 have hm:=ah hs.r.nl
 have g5:=hs.r.nl
 have g6:=List.ne_nil_of_mem hs.r.me
 have g7:=hs.n0
 have g8:=hs.n1
 have g9:=ah hs.su
 have g10:=ah hs.go
 have g11:=ah hs.jo
 have g12:=hs.jo.2
 have g13:=hs.tr0
 have g14:=hs.tr1
 dsimp only[Si.er]at g3 g4 hm g5 g6 g7 g8 g9 g10 g11 g12 g13 g14
 have yg {g:Prop} (h:g:=by first|(exact mb)|(exact⟨g7,mb⟩)|fail):g:=h
 exact wz
structure ahx where
 s:Si
 v:Qi
structure agJ where
 h:Value
 o:List Ke
theorem Wk:aB Tryz.prog 13 1 (aO (fun p:ahx=>([.ptr 0 0],(dl p.s p.s p.s p.s p.v),11)) (fun p=>bA (p.s.er none)) (fun p K=>aj fun r:agJ=>iP (r.o=p.s.log) (K (.sy (.imm r.h 18 Ke r.o aF)) (dl p.s p.s p.s p.s p.v) 11) true)):=nE (nat:=br) oJ fun p K hpre hK=>by
 dsimp only at hpre hK ⊢
 have hs:=hpre
 have hr_:=hs.r
 have mb:=hs.r.nl.2 _ hs.r.me
 have ba0:=hs.r.ba0
 have ba1:=hs.r.ba1
 have hl_:=hs.r.len
 dsimp only[Si.er]at hr_ mb ba0 ba1 hl_
 have g3:=hs.sa0
 have g4:=hs.sa1
 have hm:=ah hs.r.nl
 have g5:=hs.r.nl
 have g6:=List.ne_nil_of_mem hs.r.me
 have g7:=hs.n0
 have g8:=hs.n1
 have g9:=ah hs.su
 have g10:=ah hs.go
 have g11:=ah hs.jo
 have g12:=hs.jo.2
 have g13:=hs.tr0
 have g14:=hs.tr1
 dsimp only[Si.er]at g3 g4 hm g5 g6 g7 g8 g9 g10 g11 g12 g13 g14
 have nnx:=trivial
 have nnr:=trivial
 have ys {g:Prop} (h:g:=by first|(first|omega|(have e:=(hi).1;simp only[e,akA];omega);done)|fail):g:=h
 have yg {g:Prop} (h:g:=by first|(exact mb)|(exact⟨g7,mb⟩)|(first|omega|(simp only[akA,akJ];omega))|fail):g:=h
 have yp {g:Prop} (h:g:=by first|(first|exact(hi).1|exact hi|(rw[List.take_of_length_le (by omega)];exact(hi).1)|(rw[List.take_length];exact(hi).1))|fail):g:=h
 exact wz
structure ahl where
 s:Si
 v:Qi
structure agx where
 N:Int
 h:Value
 m:List Int
theorem VY:aB Tryz.prog 16 1 (aO (fun p:ahl=>([.ptr 0 0],(dl p.s p.s p.s p.s p.v),11)) (fun p=>bA (p.s.er none)) (fun p K=>aj fun r:agx=>iP (r.N=(p.s.er (some p.v.er)).N∧r.m=(p.s.er (some p.v.er)).m) (K (ll r.N r.h r.m) (dl p.s p.s p.s p.s p.v) 11) true)):=nE (nat:=br) oF fun p K hpre hK=>by
 dsimp only at hpre hK ⊢
 have hs:=hpre
 have hr_:=hs.r
 have mb:=hs.r.nl.2 _ hs.r.me
 have ba0:=hs.r.ba0
 have ba1:=hs.r.ba1
 have hl_:=hs.r.len
 dsimp only[Si.er]at hr_ mb ba0 ba1 hl_
 have g3:=hs.sa0
 have g4:=hs.sa1
 have hm:=ah hs.r.nl
 have g5:=hs.r.nl
 have g6:=List.ne_nil_of_mem hs.r.me
 have g7:=hs.n0
 have g8:=hs.n1
 have g9:=ah hs.su
 have g10:=ah hs.go
 have g11:=ah hs.jo
 have g12:=hs.jo.2
 have g13:=hs.tr0
 have g14:=hs.tr1
 dsimp only[Si.er]at g3 g4 hm g5 g6 g7 g8 g9 g10 g11 g12 g13 g14
 have nnx:=trivial
 have yg {g:Prop} (h:g:=by first|(exact⟨g7,mb⟩)|fail):g:=h
 have yp {g:Prop} (h:g:=by first|(exact⟨rfl,rfl⟩)|fail):g:=h
 exact wz
structure ahu where
 s:Si
 v:Qi
 h:Value
 l:List Int
structure agG where
 th:Value
 met:List Int
theorem Wh:aB Tryz.prog 27 1 (aO (fun p:ahu=>([.ptr 0 0,.sy (.imm p.h 2 Int p.l am)],(dl p.s p.s p.s p.s p.v),11)) (fun p=>bA (p.s.er none)∧p.l.length≤1000) (fun p K=>aj fun r:agG=>iP (r.met=p.l) (K (.tup []) (dl ({p.s with th:=r.th,met:=r.met}:Si) p.s p.s p.s p.v) 11) true)):=nE (nat:=br) oI fun p K hpre hK=>by
 dsimp only at hpre hK ⊢
 obtain⟨hs,hx⟩:=hpre
 have hr_:=hs.r
 have mb:=hs.r.nl.2 _ hs.r.me
 have ba0:=hs.r.ba0
 have ba1:=hs.r.ba1
 have hl_:=hs.r.len
 dsimp only[Si.er]at hr_ mb ba0 ba1 hl_
 have g3:=hs.sa0
 have g4:=hs.sa1
 have hm:=ah hs.r.nl
 have g5:=hs.r.nl
 have g6:=List.ne_nil_of_mem hs.r.me
 have g7:=hs.n0
 have g8:=hs.n1
 have g9:=ah hs.su
 have g10:=ah hs.go
 have g11:=ah hs.jo
 have g12:=hs.jo.2
 have g13:=hs.tr0
 have g14:=hs.tr1
 dsimp only[Si.er]at g3 g4 hm g5 g6 g7 g8 g9 g10 g11 g12 g13 g14
 have nnx:=trivial
 have nnr:=trivial
 have yg {g:Prop} (h:g:=by first|(exact mb)|fail):g:=h
 have yp {g:Prop} (h:g:=by first|(exact(hi).1)|fail):g:=h
 exact wz
structure ahD where
 s:Si
 v:Qi
structure agP where
 wa:Bool
theorem Wq:aB Tryz.prog 17 1 (aO (fun p:ahD=>([.ptr 0 0],(dl p.s p.s p.s p.s p.v),11)) (fun p=>bA (p.s.er none)) (fun p K=>aj fun r:agP=>iP (r.wa=p.s.wa) (K (.tup []) (dl ({p.s with wa:=r.wa}:Si) p.s p.s p.s p.v) 11) true)):=nE (nat:=br) oM fun p K hpre hK=>by
 dsimp only at hpre hK ⊢
 have hs:=hpre
 have hr_:=hs.r
 have mb:=hs.r.nl.2 _ hs.r.me
 have ba0:=hs.r.ba0
 have ba1:=hs.r.ba1
 have hl_:=hs.r.len
 dsimp only[Si.er]at hr_ mb ba0 ba1 hl_
 have g3:=hs.sa0
 have g4:=hs.sa1
 have hm:=ah hs.r.nl
 have g5:=hs.r.nl
 have g6:=List.ne_nil_of_mem hs.r.me
 have g7:=hs.n0
 have g8:=hs.n1
 have g9:=ah hs.su
 have g10:=ah hs.go
 have g11:=ah hs.jo
 have g12:=hs.jo.2
 have g13:=hs.tr0
 have g14:=hs.tr1
 dsimp only[Si.er]at g3 g4 hm g5 g6 g7 g8 g9 g10 g11 g12 g13 g14
 have yg {g:Prop} (h:g:=by first|(exact mb)|(exact⟨g7,mb⟩)|fail):g:=h
 exact wz
structure ahA where
 s:Si
 v:Qi
structure agM where
 go:List Int
theorem Wn:aB Tryz.prog 18 1 (aO (fun p:ahA=>([.ptr 0 0],(dl p.s p.s p.s p.s p.v),11)) (fun p=>bA (p.s.er none)) (fun p K=>aj fun r:agM=>iP (r.go=eM p.s.m p.s.go p.s.me) (K (.tup []) (dl ({p.s with go:=r.go}:Si) p.s p.s p.s p.v) 11) true)):=nE (nat:=br) oK fun p K hpre hK=>by
 dsimp only at hpre hK ⊢
 have hs:=hpre
 have hr_:=hs.r
 have mb:=hs.r.nl.2 _ hs.r.me
 have ba0:=hs.r.ba0
 have ba1:=hs.r.ba1
 have hl_:=hs.r.len
 dsimp only[Si.er]at hr_ mb ba0 ba1 hl_
 have g3:=hs.sa0
 have g4:=hs.sa1
 have hm:=ah hs.r.nl
 have g5:=hs.r.nl
 have g6:=List.ne_nil_of_mem hs.r.me
 have g7:=hs.n0
 have g8:=hs.n1
 have g9:=ah hs.su
 have g10:=ah hs.go
 have g11:=ah hs.jo
 have g12:=hs.jo.2
 have g13:=hs.tr0
 have g14:=hs.tr1
 dsimp only[Si.er]at g3 g4 hm g5 g6 g7 g8 g9 g10 g11 g12 g13 g14
 have nnr:=trivial
 have yg {g:Prop} (h:g:=by first|(exact⟨g7,mb⟩)|(exact⟨hm,g10⟩)|fail):g:=h
 have yp {g:Prop} (h:g:=by first|(first|exact hi|rfl)|fail):g:=h
 exact wz
structure aho where
 s:Si
 v:Qi
 x:Int
structure agA where
 su:List Int
theorem Wb:aB Tryz.prog 20 1 (aO (fun p:aho=>([.ptr 0 0,eu p.x],(dl p.s p.s p.s p.s p.v),11)) (fun p=>bA (p.s.er none)) (fun p K=>aj fun r:agA=>iP (r.su=sA p.s.m p.s.me p.s.su p.x) (K (.tup []) (dl ({p.s with su:=r.su}:Si) p.s p.s p.s p.v) 11) true)):=nE (nat:=br) oG fun p K hpre hK=>by
 dsimp only at hpre hK ⊢
 have hs:=hpre
 have hr_:=hs.r
 have mb:=hs.r.nl.2 _ hs.r.me
 have ba0:=hs.r.ba0
 have ba1:=hs.r.ba1
 have hl_:=hs.r.len
 dsimp only[Si.er]at hr_ mb ba0 ba1 hl_
 have g3:=hs.sa0
 have g4:=hs.sa1
 have hm:=ah hs.r.nl
 have g5:=hs.r.nl
 have g6:=List.ne_nil_of_mem hs.r.me
 have g7:=hs.n0
 have g8:=hs.n1
 have g9:=ah hs.su
 have g10:=ah hs.go
 have g11:=ah hs.jo
 have g12:=hs.jo.2
 have g13:=hs.tr0
 have g14:=hs.tr1
 dsimp only[Si.er]at g3 g4 hm g5 g6 g7 g8 g9 g10 g11 g12 g13 g14
 have nnq:=trivial
 have ys {g:Prop} (h:g:=by first|(simp[bU];omega;done)|fail):g:=h
 have yg {g:Prop} (h:g:=by first|(exact⟨g7,mb⟩)|fail):g:=h
 have yp {g:Prop} (h:g:=by first|(first|exact Ej (by first|assumption|exact Classical.not_not.1 (by assumption))|exact kD (by assumption) (kH (.inl (by assumption)))|exact kD (by assumption) (kH (.inr (by first|assumption|exact Classical.not_not.1 (by assumption))))|exact kD (by assumption) (sV (by first|assumption|exact Classical.not_not.1 (by assumption)) (by assumption)))|fail):g:=h
 have yq {g:Prop} (h:g:=by first|(refine wX [_] (by first|exact sd|exact ys) ?_;exact wz)|fail):g:=h
 exact wz
structure ahr where
 s:Si
 v:Qi
 x:Ke
structure agD where
 z:Int
 log:List Ke
 com:Int
 hs:List (Int×Int)
theorem We:aB Tryz.prog 24 1 (aO (fun p:ahr=>([.ptr 0 0,Aq [] p.x.v p.x.w],(dl p.s p.s p.s p.s p.v),11)) (fun p=>bA (p.s.er none)∧vF p.x) (fun p K=>aj fun r:agD=>iP ((r.log,r.com,r.hs)=gX p.s.m p.s.me p.s.log p.s.com p.s.sh p.s.hs p.x) (K (.sy (.int 0 r.z)) (dl p.s ({p.s with log:=r.log,com:=r.com,hs:=r.hs}:Si) p.s p.s p.v) 11) true)):=nE (nat:=br) oH fun p K hpre hK=>by
 dsimp only at hpre hK ⊢
 obtain⟨hs,hx⟩:=hpre
 have hr_:=hs.r
 have mb:=hs.r.nl.2 _ hs.r.me
 have ba0:=hs.r.ba0
 have ba1:=hs.r.ba1
 have hl_:=hs.r.len
 dsimp only[Si.er]at hr_ mb ba0 ba1 hl_
 have g3:=hs.sa0
 have g4:=hs.sa1
 have hm:=ah hs.r.nl
 have g5:=hs.r.nl
 have g6:=List.ne_nil_of_mem hs.r.me
 have g7:=hs.n0
 have g8:=hs.n1
 have g9:=ah hs.su
 have g10:=ah hs.go
 have g11:=ah hs.jo
 have g12:=hs.jo.2
 have g13:=hs.tr0
 have g14:=hs.tr1
 dsimp only[Si.er]at g3 g4 hm g5 g6 g7 g8 g9 g10 g11 g12 g13 g14
 have nnr:=trivial
 have yg {g:Prop} (h:g:=by first|(exact mb)|(exact⟨g7,mb⟩)|(exact⟨hr_,hx⟩)|fail):g:=h
 have yp {g:Prop} (h:g:=by first|(exact hi)|fail):g:=h
 have yq {g:Prop} (h:g:=by first|(refine cn (.mk _ _ _ _ _ _ _ _ _ (.mk ..) ..) (h:= ?_);exact wo)|fail):g:=h
 exact wz
structure ahH where
 s:So
structure agT where
 z:Prop
theorem Wu:aB Tryz.prog 19 1 (aO (fun p:ahH=>([.ptr 0 0],(da p.s),5)) (fun p=>jY p.s.er) (fun p K=>aj fun r:agT=>iP (r.z↔0<p.s.er.N) (K (.sy (.bool r.z)) (da p.s) 5) true)):=nE (nat:=br) oO fun p K hpre hK=>by
 dsimp only at hpre hK ⊢
 have hs:=hpre
 have mb:=hs.me
 have g9:=ah hs.su
 have wl_:=hs.wasl
 dsimp only[So.er]at mb g9 wl_
 have yg {g:Prop} (h:g:=by first|(exact mb)|fail):g:=h
 have yp {g:Prop} (h:g:=by first|(exact⟨fun h=>by simp at h,fun h=>absurd h (by show¬(0:Int)<0;decide)⟩)|fail):g:=h
 exact wz
structure ahK where
 s:So
structure agW where
 z:Int
theorem Wx:aB Tryz.prog 12 1 (aO (fun p:ahK=>([.ptr 0 0],(da p.s),5)) (fun p=>jY p.s.er) (fun p K=>aj fun r:agW=>iP (r.z=p.s.wc) (K (.sy (.int 0 r.z)) (da p.s) 5) true)):=nE (nat:=br) oP fun p K hpre hK=>by
 dsimp only at hpre hK ⊢
 have hs:=hpre
 have mb:=hs.me
 have g9:=ah hs.su
 have wl_:=hs.wasl
 dsimp only[So.er]at mb g9 wl_
 have yg {g:Prop} (h:g:=by first|(exact mb)|fail):g:=h
 exact wz
structure ahy where
 s:So
structure agK where
 h:Value
 o:List Ke
theorem Wl:aB Tryz.prog 13 1 (aO (fun p:ahy=>([.ptr 0 0],(da p.s),5)) (fun p=>jY p.s.er) (fun p K=>aj fun r:agK=>iP (r.o=p.s.was) (K (.sy (.imm r.h 18 Ke r.o aF)) (da p.s) 5) true)):=nE (nat:=br) oJ fun p K hpre hK=>by
 dsimp only at hpre hK ⊢
 have hs:=hpre
 have mb:=hs.me
 have g9:=ah hs.su
 have wl_:=hs.wasl
 dsimp only[So.er]at mb g9 wl_
 have nnr:=trivial
 have yg {g:Prop} (h:g:=by first|(exact mb)|fail):g:=h
 have yp {g:Prop} (h:g:=by first|(first|exact(hi).1|exact hi|(rw[List.take_of_length_le (by omega)];exact(hi).1)|(rw[List.take_length];exact(hi).1))|fail):g:=h
 exact wz
structure ahm where
 s:So
structure agy where
 N:Int
 h:Value
 m:List Int
theorem VZ:aB Tryz.prog 16 1 (aO (fun p:ahm=>([.ptr 0 0],(da p.s),5)) (fun p=>jY p.s.er) (fun p K=>aj fun r:agy=>iP (r.N=p.s.er.N∧r.m=p.s.er.m) (K (ll r.N r.h r.m) (da p.s) 5) true)):=nE (nat:=br) oF fun p K hpre hK=>by
 dsimp only at hpre hK ⊢
 have hs:=hpre
 have mb:=hs.me
 have g9:=ah hs.su
 have wl_:=hs.wasl
 dsimp only[So.er]at mb g9 wl_
 have nnx:=trivial
 have yg {g:Prop} (h:g:=by first|(exact mb)|fail):g:=h
 have yp {g:Prop} (h:g:=by first|(exact⟨rfl,rfl⟩)|fail):g:=h
 have ye {g:Prop} (h:g:=by first|(exact cQ hK (.mk _ _ [] ..))|fail):g:=h
 exact wz
structure ahv where
 s:So
 h:Value
 l:List Int
structure agH where
 th:Value
 met:List Int
theorem Wi:aB Tryz.prog 27 1 (aO (fun p:ahv=>([.ptr 0 0,.sy (.imm p.h 2 Int p.l am)],(da p.s),5)) (fun p=>jY p.s.er∧p.l.length≤1000) (fun p K=>aj fun r:agH=>iP (r.met=p.l) (K (.tup []) (da ({p.s with th:=r.th,met:=r.met}:So)) 5) true)):=nE (nat:=br) oI fun p K hpre hK=>by
 dsimp only at hpre hK ⊢
 obtain⟨hs,hx⟩:=hpre
 have mb:=hs.me
 have g9:=ah hs.su
 have wl_:=hs.wasl
 dsimp only[So.er]at mb g9 wl_
 have nnx:=trivial
 have nnr:=trivial
 have yg {g:Prop} (h:g:=by first|(exact mb)|fail):g:=h
 have yp {g:Prop} (h:g:=by first|(exact(hi).1)|fail):g:=h
 exact wz
structure ahE where
 s:So
structure agQ where
 wa:Bool
theorem Wr:aB Tryz.prog 17 1 (aO (fun p:ahE=>([.ptr 0 0],(da p.s),5)) (fun p=>jY p.s.er) (fun p K=>aj fun r:agQ=>iP (r.wa=true) (K (.tup []) (da ({p.s with wa:=r.wa}:So)) 5) true)):=nE (nat:=br) oM fun p K hpre hK=>by
 dsimp only at hpre hK ⊢
 have hs:=hpre
 have mb:=hs.me
 have g9:=ah hs.su
 have wl_:=hs.wasl
 dsimp only[So.er]at mb g9 wl_
 have yg {g:Prop} (h:g:=by first|(exact mb)|fail):g:=h
 exact wz
structure ahB where
 s:So
structure agN where
 go:List Int
theorem Wo:aB Tryz.prog 18 1 (aO (fun p:ahB=>([.ptr 0 0],(da p.s),5)) (fun p=>jY p.s.er) (fun p K=>aj fun r:agN=>iP (r.go=p.s.go) (K (.tup []) (da ({p.s with go:=r.go}:So)) 5) true)):=nE (nat:=br) oK fun p K hpre hK=>by
 dsimp only at hpre hK ⊢
 have hs:=hpre
 have mb:=hs.me
 have g9:=ah hs.su
 have wl_:=hs.wasl
 dsimp only[So.er]at mb g9 wl_
 have yg {g:Prop} (h:g:=by first|(exact mb)|fail):g:=h
 have yp {g:Prop} (h:g:=by first|(first|exact hi|rfl)|fail):g:=h
 exact wz
structure ahp where
 s:So
 x:Int
structure agB where
 su:List Int
theorem Wc:aB Tryz.prog 20 1 (aO (fun p:ahp=>([.ptr 0 0,eu p.x],(da p.s),5)) (fun p=>jY p.s.er) (fun p K=>aj fun r:agB=>iP (r.su=p.s.su) (K (.tup []) (da ({p.s with su:=r.su}:So)) 5) true)):=nE (nat:=br) oG fun p K hpre hK=>by
 dsimp only at hpre hK ⊢
 have hs:=hpre
 have mb:=hs.me
 have g9:=ah hs.su
 have wl_:=hs.wasl
 dsimp only[So.er]at mb g9 wl_
 have yg {g:Prop} (h:g:=by first|(exact mb)|fail):g:=h
 exact wz
structure ahs where
 s:So
 x:Ke
structure agE where
 z:Int
theorem Wf:aB Tryz.prog 24 1 (aO (fun p:ahs=>([.ptr 0 0,Aq [] p.x.v p.x.w],(da p.s),5)) (fun p=>jY p.s.er∧vF p.x) (fun p K=>aj fun r:agE=>iP (True) (K (.sy (.int 0 r.z)) (da p.s) 5) true)):=nE (nat:=br) oH fun p K hpre hK=>by
 dsimp only at hpre hK ⊢
 obtain⟨hs,hx⟩:=hpre
 have mb:=hs.me
 have g9:=ah hs.su
 have wl_:=hs.wasl
 dsimp only[So.er]at mb g9 wl_
 have yg {g:Prop} (h:g:=by first|(exact mb)|fail):g:=h
 exact wz
end Go.Proofs.Tryz
namespace Go.Proofs.Tryz
open Go Go.RowKit Go.Sy
open Go.Eng hiding aj
def SForm (M:T) (n:Nat) (s:St):Prop:=
 (∃x:Si,M=dm x x x∧n=9∧s=x.er none∧(x.be.length:Int)≤x.se∧0<x.N)∨
 (∃(x:Si) (v:Qi),M=dl x x x x v∧n=11∧s=x.er (some v.er)∧(x.be.length:Int)≤x.se∧0<x.N)∨
 (∃u:So,M=da u∧n=5∧s=u.er∧(u.be.length:Int)≤u.se)
theorem SForm.noQ {M:T} {n:Nat} {s:St} (h:SForm M n s):∀i o,M.get i=some o→¬Bv o:=by
 rcases h with⟨x,rfl,_⟩|⟨x,v,rfl,_⟩|⟨u,rfl,_⟩
 ·exact jD (by kernel_rfl)
 ·exact jD (by kernel_rfl)
 ·exact jD (by kernel_rfl)
def SeatAt (h:Value) (s:St) (m:dO) (c:aH):Prop:=∃(b cap:Nat) (M:T) (n:Nat) (ρ:Go.Sy.Ren) (at0:Nat→Value),h= .pointer (some ⟨b,0,none⟩)∧SForm M n s∧ρ 0=some ⟨b,cap⟩∧(∀i,Value.oneCell' (at0 i)=true)∧(∀i,n≤i→ρ i=none)∧
 (∀i o,M.get i=some o→∃e,ρ i=some e∧((bD e o=true∧∃ob,(e.b,ob)∈c∧ORel ⟨at0,m⟩ ρ e o ob)∨(bD e o=false∧tW o)))∧
 (∀i j e f o o',M.get i=some o→M.get j=some o'→ρ i=some e→ρ j=some f→bD e o=true→bD f o'=true→e.b=f.b→i=j)
theorem SeatAt.mono {h:Value} {s:St} {m m':dO} {c:aH} (hm:MLe m m') (k:SeatAt h s m c):SeatAt h s m' c:=by
 obtain⟨b,cap,M,n,ρ,at0,h1,h2,h3,h4,h5,h6,h7⟩:=k
 refine⟨b,cap,M,n,ρ,at0,h1,h2,h3,h4,h5,fun i o hi=> ?_,h7⟩
 obtain⟨e,a1,⟨a2,ob,a3,a4⟩|a2⟩:=h6 i o hi
 ·exact⟨e,a1,.inl ⟨a2,ob,a3,ORel.env (E:=⟨at0,m⟩) (E':=⟨at0,m'⟩) ⟨fun _ _ _=>rfl,hm⟩ a4⟩⟩
 ·exact⟨e,a1,.inr a2⟩
def SeatsH:List (Value×St)→dO→aH→Prop
 |[],_,_=>True
 |x::l,m,D=>∃c D',D.Perm (c++D')∧SeatAt x.1 x.2 m c∧SeatsH l m D'
theorem SeatsH.mono {m m':dO} (hm:MLe m m'):∀{l:List (Value×St)} {D:aH},SeatsH l m D→SeatsH l m' D
 |[],_,h=>h
 |_::_,_,⟨c,D',h1,h2,h3⟩=>⟨c,D',h1,h2.mono hm,h3.mono hm⟩
theorem SeatsH.split {m:dO} {h:Value} {s:St}:∀{l:List (Value×St)} {n:Nat} {D:aH},SeatsH l m D→l[n]?=some (h,s)→∃c R,D.Perm (c++R)∧SeatAt h s m c∧∀s' c' m',MLe m m'→SeatAt h s' m' c'→SeatsH (l.set n (h,s')) m' (c'++R)
 |[],n,D,_,hn=>by simp at hn
 |x::l,0,D,⟨c,D',h1,h2,h3⟩,hn=>by
  simp only[List.getElem?_cons_zero,Option.some.injEq]at hn
  subst hn
  exact⟨c,D',h1,h2,fun s' c' m' hm hat=>⟨c',D',List.Perm.refl _,hat,h3.mono hm⟩⟩
 |x::l,n+1,D,⟨c0,D0,h1,h2,h3⟩,hn=>by
  simp only[List.getElem?_cons_succ]at hn
  obtain⟨c,R,g1,g2,g3⟩:=SeatsH.split h3 hn
  refine⟨c,c0++R,h1.trans ((List.Perm.append_left c0 g1).trans ?_),g2,fun s' c' m' hm hat=>⟨c0,c'++R,?_,h2.mono hm,g3 s' c' m' hm hat⟩⟩
  ·rw[←akt,←akt]
   exact List.Perm.append_right R List.perm_append_comm
  ·rw[←akt,←akt]
   exact List.Perm.append_right R List.perm_append_comm
def bK (x:List Value×List St) (m:dO) (D:aH):Prop:=x.1.length=x.2.length∧SeatsH (x.1.zip x.2) m D
def OQ (ps:List Value) (ss:List St):T:=.node .leaf (some (.opq (List Value×List St) (ps,ss) bK)) .leaf
theorem OQ_get {ps:List Value} {ss:List St} {i:Nat} {o:AObj} (h:(OQ ps ss).get i=some o):i=0∧o= .opq (List Value×List St) (ps,ss) bK:=by
 cases i with
 |zero=>cases h;exact⟨rfl,rfl⟩
 |succ i=>
  rcases Nat.mod_two_eq_zero_or_one i with e|e
  ·unfold OQ at h;rw[T.get_even _ _ _ _ e,T.get_leaf]at h;cases h
  ·unfold OQ at h;rw[T.get_odd _ _ _ _ e,T.get_leaf]at h;cases h
def SI (s:St):Prop:=(0<s.N→bA s∧qJ s∧∀v,s.q=some v→PQOk s v)∧(¬0<s.N→jY s)
theorem ah1 {x:Si} {q:Option Pq} (h:bA (x.er q)):bA (x.er none):=⟨h.r,h.n0,h.n1,h.se,h.su,h.jo,h.go,h.met,h.log,h.was,h.wasl,h.sa0,h.sa1,h.tr0,h.tr1,h.ro0,h.ro1,h.prm0,h.prm1,h.aa0,h.aa1,h.av,h.avk⟩
theorem SI.n {x:Si} (h:SI (x.er none)) (h0:0<x.N):bA (x.er none)∧qJ (x.er none):=⟨(h.1 h0).1,(h.1 h0).2.1⟩
theorem SI.q {x:Si} {v:Qi} (h:SI (x.er (some v.er))) (h0:0<x.N):bA (x.er none)∧PQOk (x.er none) v.er:=⟨ah1 (h.1 h0).1,gv ((h.1 h0).2.2 v.er rfl) rfl rfl rfl rfl⟩
theorem SI.o {u:So} (h:SI u.er):jY u.er:=h.2 (by show¬(0:Int)<0;decide)
def qG (v:AV):Prop:=∀(E E':Env) (ρ ρ':Go.Sy.Ren) x,E'.M=E.M→den E ρ v=some x→den E' ρ' v=some x
theorem cM (ag:Bool) (ps:List PL):qG (aV ag ps):=fun _ _ _ _ _ h hd=>tw h hd
theorem mc:qG (.tup []):=fun E E' ρ ρ' x h hd=>by simpa[den,ax] using hd
theorem Al {E E':Env} {ρ ρ':Go.Sy.Ren} (hM:E'.M=E.M):∀{us:List AV} {xs:List Value},(∀u∈us,qG u)→ax E ρ us=some xs→ax E' ρ' us=some xs
 |[],_,_,h=>h
 |u::us,xs,hp,h=>by
  obtain⟨x,ys,h1,h2,rfl⟩:=bf h
  exact eD (hp u (by simp) E E' ρ ρ' x hM h1) (Al hM (fun v hv=>hp v (by simp[hv])) h2)
theorem aZ {f k:Nat} {sp sp':co} (h:aB Tryz.prog f k sp) (hi:∀us M nx K,sp' us M nx K=true→sp us M nx K=true):aB Tryz.prog f k sp':=fun us xs E ρ G F M nx w K R a b c d=>h us xs E ρ G F M nx w K R a b c (hi _ _ _ _ d)
def gM (f:Nat) (us:List AV) (pre:St→Prop) (post:St→AV→St→Prop):Prop:=∀s M n,SForm M n s→pre s→aB Tryz.prog f 1 (fun us' M' n' K=>aq (us'= .ptr 0 0::us∧M'=M∧n'=n∧∀v s' M2 n2,SForm M2 n2 s'→post s v s'→K v M2 n2=true))
theorem En:∀{ps:List Value} {ss:List St} {n:Nat} {h:Value},ps[n]?=some h→∀s':St,(ps.zip ss).set n (h,s')=ps.zip (ss.set n s')
 |[],_,n,h,hn,_=>by simp at hn
 |p::ps,[],n,h,hn,_=>by simp
 |p::ps,t::ss,0,h,hn,s'=>by
  simp only[List.getElem?_cons_zero,Option.some.injEq]at hn
  subst hn;rfl
 |p::ps,t::ss,n+1,h,hn,s'=>by
  simp only[List.getElem?_cons_succ]at hn
  simp only[List.zip_cons_cons,List.set_cons_succ,En hn s']
theorem lu {f:Nat} {us:List AV} {pre:St→Prop} {post:St→AV→St→Prop} (hf:gM f us pre post) (hu:∀u∈us,qG u) (hp:∀s v s',post s v s'→qG v) {ps:List Value} {ss:List St} {n:Nat} {h:Value} {s:St} (hn:ps[n]?=some h) (hs0:ss[n]?=some s) (hpre:pre s):
  dk Tryz.prog f 1 (fun us' M' nx' K=>aq (us'= .ptr 0 0::hv h::us∧M'=OQ ps ss∧nx'=1∧∀v s',post s v s'→K v (OQ ps (ss.set n s')) 1=true)):=by
 intro us' xs E ρ G F M nx w K R hE hs hd hk hr
 obtain⟨e1,e2,e3,hk2⟩:=prB_true.1 hk
 subst e1;subst e2;subst e3
 obtain⟨D,_,c,rfl,hq,hh,hob,hinj⟩:=hs.ex
 obtain⟨m0,hm0,hlen,hS⟩:=hq 0 _ _ _ rfl
 obtain⟨c1,Rr,hperm,hat,hback⟩:=SeatsH.split hS (List.getElem?_zip_eq_some.2 ⟨hn,hs0⟩)
 have hat':=hat
 obtain⟨b,cap,Mf,nf,ρf,at0,hb,hform,hρ0,hat0,hfr,hobf,hinjf⟩:=hat.mono hm0
 obtain⟨z0,xs1,_,d3,rfl⟩:=bf hd
 obtain⟨x0,ys,d4,d1,rfl⟩:=bf d3
 have hx0:=KN d4
 subst hx0
 show Calls Tryz.prog f (x0::ys).toArray w R
 have hE1:cF ⟨at0,E.M⟩:=⟨hat0,hE.2⟩
 have hs1:Sim ⟨at0,E.M⟩ ρf G ((c++Rr)::F) Mf nf w:=by
  refine⟨⟨[],_,c1,rfl,fun i α x Φ hi=>absurd trivial (hform.noQ i _ hi),hh.perm ?_,hobf,hinjf⟩,hs.mem,hfr⟩
  simp only[akq,List.nil_append,←akt]
  refine List.Perm.append_right _ ?_
  refine List.Perm.trans ?_ (List.Perm.append_left c hperm.symm)
  rw[←akt]
  exact List.Perm.append_right Rr List.perm_append_comm
 have hd1:ax ⟨at0,E.M⟩ ρf (.ptr 0 0::us)=some (x0::ys):=eD (by simp[den,hρ0,hb]) (Al (E:=E) (E':=⟨at0,E.M⟩) rfl hu d1)
 refine hf s Mf nf hform hpre _ _ ⟨at0,E.M⟩ ρf G _ Mf nf w (fun v M2 n2=>aq (∃s',SForm M2 n2 s'∧post s v s')) R hE1 hs1 hd1 (prB_true.2 ⟨rfl,rfl,rfl,fun v s' M2 n2 h1 h2=>prB_true.2 ⟨s',h1,h2⟩⟩) ?_
 intro v M2 n2 E2 ρ2 w2 z hK hE2 hM hpin hs2 hdv
 obtain⟨s',hf2,hpo⟩:=prB_true.1 hK
 obtain⟨D2,_,c2,rfl,hq2,hh2,hob2,hinj2⟩:=hs2.ex
 obtain⟨e0,he0,_⟩:=hob 0 _ rfl
 refine hr v (OQ ps (ss.set n s')) 1 ⟨E.at_,E2.M⟩ ρ w2 z (hk2 v s' hpo) ⟨hE.1,hE2.2⟩ hM (fun i e _ q=>q) ?_ (hp s v s' hpo E2 ⟨E.at_,E2.M⟩ ρ2 ρ z rfl hdv)
 refine⟨⟨c2++Rr,_,c++D2,rfl,fun i α x Φ hi=> ?_,hh2.perm ?_,fun i o hi=> ?_,fun i j e f o o' hi hj he hf' hb1 hb2 _=> ?_⟩,hs2.mem,hs.fresh⟩
 ·obtain⟨rfl,ho⟩:=OQ_get hi
  cases ho
  refine⟨E2.M,MLe.refl _,by simpa using hlen,?_⟩
  have:=hback s' c2 E2.M (hm0.trans hM) ⟨b,cap,M2,n2,ρ2,E2.at_,hb,hf2,hpin 0 _ (by decide) hρ0,hE2.1,hs2.fresh,hob2,hinj2⟩
  rw[En hn]at this
  exact this
 ·simp only[akq,←akt]
  refine List.Perm.append_right _ ?_
  refine List.Perm.append_right Rr ?_
  rw[akt]
  exact List.perm_append_comm.trans (List.Perm.append_right c List.perm_append_comm)
 ·obtain⟨rfl,rfl⟩:=OQ_get hi
  exact⟨e0,he0,.inr ⟨rfl,trivial⟩⟩
 ·obtain⟨rfl,rfl⟩:=OQ_get hi
  cases hb1
end Go.Proofs.Tryz
namespace Go.Proofs.Tryz
open Go Go.RowKit Go.Sy
open Go.Eng hiding aj
set_option maxRecDepth 1000000
set_option linter.unusedVariables false
set_option maxHeartbeats 4000000
attribute [local irreducible] aq
def Jd:St:=⟨0,[],[],0,0,false,[],0,0,([],[]),none,0,0,[],[],[],[],false,0,0,0,[],0⟩
def aI (ss:List St) (n:Nat):St:=(ss[n]?).getD Jd
theorem dP {ss:List St} {n:Nat} (h:n<ss.length):ss[n]?=some (aI ss n):=by unfold aI;rw[List.getElem?_eq_getElem h];rfl
theorem qQ {ss:List St} {n:Nat}:ss.set n (aI ss n)=ss:=by
 unfold aI
 by_cases h:n<ss.length
 ·rw[List.getElem?_eq_getElem h];exact List.set_getElem_self h
 ·rw[List.set_eq_of_length_le (by omega)]
def cG (s:St):Int:=if 0<s.N then s.com else s.wc
def cO (s:St):List Ke:=if 0<s.N then s.log else s.was
def gB (s:St):St:=if 0<s.N then s else {s with wa:=true}
def fe (s:St):St:=if 0<s.N then {s with go:=eM s.m s.go s.me} else s
def nY (s:St) (x:Int):St:=if 0<s.N then {s with su:=sA s.m s.me s.su x} else s
def mV (s:St) (x:Ke):St:=if 0<s.N then {s with log:=(gX s.m s.me s.log s.com s.sh s.hs x).1,com:=(gX s.m s.me s.log s.com s.sh s.hs x).2.1,hs:=(gX s.m s.me s.log s.com s.sh s.hs x).2.2} else s
def jt (s:St) (l:List Int):St:={s with met:=l}
theorem kA {u:So}:¬0<u.er.N:=by show¬(0:Int)<0;decide
theorem GH {now:Int}:gM 50 [aV false [.sint 0 now]] (fun s=>SI s∧s.N+1<4294967295∧0≤now∧now≤1000000000) (fun s v s2=>∃(hh:Value) (o:List Ou),v=aV false [.imm hh 33 Ou o cB]∧o.map Ou.er=(cg now s).2∧s2=(cg now s).1):=by
 intro s M n hf hp
 rcases hf with⟨x_,rfl,rfl,rfl,hb,h0⟩|⟨x_,v_,rfl,rfl,rfl,hb,h0⟩|⟨u_,rfl,rfl,rfl,hb⟩
 ·refine aZ AO fun us M nx K hk=> ?_
  obtain⟨e1,e2,e3,hk9⟩:=prB_true.1 hk
  subst e1;subst e2;subst e3
  have hs:=SI.n hp.1 h0
  refine aW ⟨x_,now⟩ (aM rfl (aM ⟨hs.1,hs.2,⟨hb,h0⟩,hp.2.2.1,hp.2.2.2,hp.2.1⟩ ?_))
  exact dD (aP fun r=>iI (fun hr=>hk9 _ _ _ _ (.inr (.inl ⟨r.s,r.v,rfl,rfl,rfl,hr.2.1,hr.2.2⟩)) ⟨r.hh,r.o,rfl,congrArg Prod.snd hr.1,congrArg Prod.fst hr.1⟩) (fun _=>rfl)) (dD (aP fun r=>iI (fun hr=>hk9 _ _ _ _ (.inl ⟨r.s,rfl,rfl,rfl,hr.2.1,hr.2.2⟩) ⟨r.hh,r.o,rfl,congrArg Prod.snd hr.1,congrArg Prod.fst hr.1⟩) (fun _=>rfl)) (aP fun r=>iI (fun hr=>hk9 _ _ _ _ (.inr (.inr ⟨r.s,rfl,rfl,rfl,hr.2⟩)) ⟨r.hh,r.o,rfl,congrArg Prod.snd hr.1,congrArg Prod.fst hr.1⟩) (fun _=>rfl)))
 ·refine aZ AM fun us M nx K hk=> ?_
  obtain⟨e1,e2,e3,hk9⟩:=prB_true.1 hk
  subst e1;subst e2;subst e3
  have hs:=SI.q hp.1 h0
  refine aW ⟨x_,v_,now⟩ (aM rfl (aM ⟨hs.1,hs.2,⟨hb,h0⟩,hp.2.2.1,hp.2.2.2,hp.2.1⟩ ?_))
  exact aP fun r=>iI (fun hr=>hk9 _ _ _ _ (.inr (.inl ⟨r.s,r.v,rfl,rfl,rfl,hr.2.1,hr.2.2⟩)) ⟨r.hh,r.o,rfl,congrArg Prod.snd hr.1,congrArg Prod.fst hr.1⟩) (fun _=>rfl)
 ·refine aZ AN fun us M nx K hk=> ?_
  obtain⟨e1,e2,e3,hk9⟩:=prB_true.1 hk
  subst e1;subst e2;subst e3
  have hs:=SI.o hp.1
  refine aW ⟨u_,now⟩ (aM rfl (aM ⟨hs,hb,hp.2.2.1,hp.2.2.2⟩ ?_))
  exact aP fun r=>iI (fun hr=>hk9 _ _ _ _ (.inr (.inr ⟨r.s,rfl,rfl,rfl,hr.2⟩)) ⟨r.hh,r.o,rfl,congrArg Prod.snd hr.1,congrArg Prod.fst hr.1⟩) (fun _=>rfl)
theorem GI {now:Int} {fr:Int} {m:Mg}:gM 51 [aV false [.sint 0 now],aV true [.sint 1 fr,.int 2 (.ofNat 1)],aV true [.sint 1 m.k,.int 1 (.ofNat 0),.int 1 (.ofNat 0),.sint 3 m.N,.sint 3 m.fr,.sint 3 m.c,.int 3 (.ofNat 0),.sint 4 m.b,.sint 4 m.acc,.int 1 (.ofNat 0),.int 2 (.ofNat 0),.int 3 (.ofNat 0),.int 1 (.ofNat 0),.int 1 (.ofNat 0),.int 1 (.ofNat 0),.int 1 (.ofNat 0),.int 1 (.ofNat 0),.int 1 (.ofNat 0),.int 1 (.ofNat 0),.nilS,.int 1 (.ofNat 0),.str [],.int 1 (.ofNat 0),.sint 3 m.vn,.imm m.vh 2 Int m.vl am,.sint 1 m.pn,.sint 2 m.pl,.sbool (m.has=true),.imm m.mh 2 Int m.ml am,.imm m.h 18 Ke m.l aF,.imm m.th 18 Ke m.tl aF]] (fun s=>SI s∧s.N+1<4294967295∧0≤now∧now≤1000000000∧cE m.er∧m.vn<4294967295∧0≤fr∧fr<8) (fun s v s2=>∃(hh:Value) (o:List Ou),v=aV false [.imm hh 33 Ou o cB]∧o.map Ou.er=(bm now s fr m.er).2∧s2=(bm now s fr m.er).1):=by
 intro s M n hf hp
 rcases hf with⟨x_,rfl,rfl,rfl,hb,h0⟩|⟨x_,v_,rfl,rfl,rfl,hb,h0⟩|⟨u_,rfl,rfl,rfl,hb⟩
 ·refine aZ AT fun us M nx K hk=> ?_
  obtain⟨e1,e2,e3,hk9⟩:=prB_true.1 hk
  subst e1;subst e2;subst e3
  have hs:=SI.n hp.1 h0
  refine aW ⟨x_,now,fr,m⟩ (aM rfl (aM ⟨hs.1,hs.2,⟨hb,h0⟩,hp.2.2.1,hp.2.2.2.1,hp.2.2.2.2.1,hp.2.2.2.2.2.1,hp.2.2.2.2.2.2.1,hp.2.2.2.2.2.2.2,hp.2.1⟩ ?_))
  exact dD (aP fun r=>iI (fun hr=>hk9 _ _ _ _ (.inl ⟨r.s,rfl,rfl,rfl,hr.2.1,hr.2.2⟩) ⟨r.hh,r.o,rfl,congrArg Prod.snd hr.1,congrArg Prod.fst hr.1⟩) (fun _=>rfl)) (aP fun r=>iI (fun hr=>hk9 _ _ _ _ (.inr (.inr ⟨r.s,rfl,rfl,rfl,hr.2⟩)) ⟨r.hh,r.o,rfl,congrArg Prod.snd hr.1,congrArg Prod.fst hr.1⟩) (fun _=>rfl))
 ·refine aZ AR fun us M nx K hk=> ?_
  obtain⟨e1,e2,e3,hk9⟩:=prB_true.1 hk
  subst e1;subst e2;subst e3
  have hs:=SI.q hp.1 h0
  refine aW ⟨x_,v_,now,fr,m⟩ (aM rfl (aM ⟨hs.1,hs.2,⟨hb,h0⟩,hp.2.2.1,hp.2.2.2.1,hp.2.2.2.2.1,hp.2.2.2.2.2.1,hp.2.2.2.2.2.2.1,hp.2.2.2.2.2.2.2,hp.2.1⟩ ?_))
  exact dD (aP fun r=>iI (fun hr=>hk9 _ _ _ _ (.inr (.inl ⟨r.s,r.v,rfl,rfl,rfl,hr.2.1,hr.2.2⟩)) ⟨r.hh,r.o,rfl,congrArg Prod.snd hr.1,congrArg Prod.fst hr.1⟩) (fun _=>rfl)) (dD (aP fun r=>iI (fun hr=>hk9 _ _ _ _ (.inl ⟨r.s,rfl,rfl,rfl,hr.2.1,hr.2.2⟩) ⟨r.hh,r.o,rfl,congrArg Prod.snd hr.1,congrArg Prod.fst hr.1⟩) (fun _=>rfl)) (aP fun r=>iI (fun hr=>hk9 _ _ _ _ (.inr (.inr ⟨r.s,rfl,rfl,rfl,hr.2⟩)) ⟨r.hh,r.o,rfl,congrArg Prod.snd hr.1,congrArg Prod.fst hr.1⟩) (fun _=>rfl)))
 ·refine aZ AS fun us M nx K hk=> ?_
  obtain⟨e1,e2,e3,hk9⟩:=prB_true.1 hk
  subst e1;subst e2;subst e3
  have hs:=SI.o hp.1
  refine aW ⟨u_,now,fr,m⟩ (aM rfl (aM ⟨hs,hb,hp.2.2.1,hp.2.2.2.1,hp.2.2.2.2.1,hp.2.2.2.2.2.1,hp.2.2.2.2.2.2.1,hp.2.2.2.2.2.2.2⟩ ?_))
  exact dD (aP fun r=>iI (fun hr=>hk9 _ _ _ _ (.inl ⟨r.s,rfl,rfl,rfl,hr.2.1,hr.2.2⟩) ⟨r.hh,r.o,rfl,congrArg Prod.snd hr.1,congrArg Prod.fst hr.1⟩) (fun _=>rfl)) (aP fun r=>iI (fun hr=>hk9 _ _ _ _ (.inr (.inr ⟨r.s,rfl,rfl,rfl,hr.2⟩)) ⟨r.hh,r.o,rfl,congrArg Prod.snd hr.1,congrArg Prod.fst hr.1⟩) (fun _=>rfl))
theorem Ng:gM 19 [] (fun s=>SI s) (fun s v s2=>∃(z:Prop),v=aV false [.sbool z]∧(z↔0<s.N)∧s2=s):=by
 intro s M n hf hp
 replace hp:=And.intro hp trivial
 rcases hf with⟨x_,rfl,rfl,rfl,hb,h0⟩|⟨x_,v_,rfl,rfl,rfl,hb,h0⟩|⟨u_,rfl,rfl,rfl,hb⟩
 ·refine aZ Wv fun us M nx K hk=> ?_
  obtain⟨e1,e2,e3,hk9⟩:=prB_true.1 hk
  subst e1;subst e2;subst e3
  have hs:=SI.n hp.1 h0
  refine aW ⟨x_⟩ (aM rfl (aM hs.1 ?_))
  refine aP fun r=>iI (fun hr=>hk9 _ _ _ _ (.inl ⟨x_,rfl,rfl,rfl,hb,h0⟩) ⟨r.z,rfl,hr,rfl⟩) (fun _=>rfl)
 ·refine aZ Wt fun us M nx K hk=> ?_
  obtain⟨e1,e2,e3,hk9⟩:=prB_true.1 hk
  subst e1;subst e2;subst e3
  have hs:=SI.q hp.1 h0
  refine aW ⟨x_,v_⟩ (aM rfl (aM hs.1 ?_))
  refine aP fun r=>iI (fun hr=>hk9 _ _ _ _ (.inr (.inl ⟨x_,v_,rfl,rfl,rfl,hb,h0⟩)) ⟨r.z,rfl,hr,rfl⟩) (fun _=>rfl)
 ·refine aZ Wu fun us M nx K hk=> ?_
  obtain⟨e1,e2,e3,hk9⟩:=prB_true.1 hk
  subst e1;subst e2;subst e3
  have hs:=SI.o hp.1
  refine aW ⟨u_⟩ (aM rfl (aM hs ?_))
  refine aP fun r=>iI (fun hr=>hk9 _ _ _ _ (.inr (.inr ⟨u_,rfl,rfl,rfl,hb⟩)) ⟨r.z,rfl,hr,rfl⟩) (fun _=>rfl)
theorem Nh:gM 12 [] (fun s=>SI s) (fun s v s2=>∃(z:Int),v=aV false [.sint 0 z]∧z=cG s∧s2=s):=by
 intro s M n hf hp
 replace hp:=And.intro hp trivial
 rcases hf with⟨x_,rfl,rfl,rfl,hb,h0⟩|⟨x_,v_,rfl,rfl,rfl,hb,h0⟩|⟨u_,rfl,rfl,rfl,hb⟩
 ·refine aZ Wy fun us M nx K hk=> ?_
  obtain⟨e1,e2,e3,hk9⟩:=prB_true.1 hk
  subst e1;subst e2;subst e3
  have hs:=SI.n hp.1 h0
  refine aW ⟨x_⟩ (aM rfl (aM hs.1 ?_))
  refine aP fun r=>iI (fun hr=>hk9 _ _ _ _ (.inl ⟨x_,rfl,rfl,rfl,hb,h0⟩) ⟨r.z,rfl,by unfold cG;rw[if_pos (show 0<(x_.er none).N from h0)];exact hr,rfl⟩) (fun _=>rfl)
 ·refine aZ Ww fun us M nx K hk=> ?_
  obtain⟨e1,e2,e3,hk9⟩:=prB_true.1 hk
  subst e1;subst e2;subst e3
  have hs:=SI.q hp.1 h0
  refine aW ⟨x_,v_⟩ (aM rfl (aM hs.1 ?_))
  refine aP fun r=>iI (fun hr=>hk9 _ _ _ _ (.inr (.inl ⟨x_,v_,rfl,rfl,rfl,hb,h0⟩)) ⟨r.z,rfl,by unfold cG;rw[if_pos (show 0<(x_.er (some v_.er)).N from h0)];exact hr,rfl⟩) (fun _=>rfl)
 ·refine aZ Wx fun us M nx K hk=> ?_
  obtain⟨e1,e2,e3,hk9⟩:=prB_true.1 hk
  subst e1;subst e2;subst e3
  have hs:=SI.o hp.1
  refine aW ⟨u_⟩ (aM rfl (aM hs ?_))
  refine aP fun r=>iI (fun hr=>hk9 _ _ _ _ (.inr (.inr ⟨u_,rfl,rfl,rfl,hb⟩)) ⟨r.z,rfl,by unfold cG;rw[if_neg kA];exact hr,rfl⟩) (fun _=>rfl)
theorem Nc:gM 13 [] (fun s=>SI s) (fun s v s2=>∃(hh:Value) (o:List Ke),v=aV false [.imm hh 18 Ke o aF]∧o=cO s∧s2=s):=by
 intro s M n hf hp
 replace hp:=And.intro hp trivial
 rcases hf with⟨x_,rfl,rfl,rfl,hb,h0⟩|⟨x_,v_,rfl,rfl,rfl,hb,h0⟩|⟨u_,rfl,rfl,rfl,hb⟩
 ·refine aZ Wm fun us M nx K hk=> ?_
  obtain⟨e1,e2,e3,hk9⟩:=prB_true.1 hk
  subst e1;subst e2;subst e3
  have hs:=SI.n hp.1 h0
  refine aW ⟨x_⟩ (aM rfl (aM hs.1 ?_))
  refine aP fun r=>iI (fun hr=>hk9 _ _ _ _ (.inl ⟨x_,rfl,rfl,rfl,hb,h0⟩) ⟨r.h,r.o,rfl,by unfold cO;rw[if_pos (show 0<(x_.er none).N from h0)];exact hr,rfl⟩) (fun _=>rfl)
 ·refine aZ Wk fun us M nx K hk=> ?_
  obtain⟨e1,e2,e3,hk9⟩:=prB_true.1 hk
  subst e1;subst e2;subst e3
  have hs:=SI.q hp.1 h0
  refine aW ⟨x_,v_⟩ (aM rfl (aM hs.1 ?_))
  refine aP fun r=>iI (fun hr=>hk9 _ _ _ _ (.inr (.inl ⟨x_,v_,rfl,rfl,rfl,hb,h0⟩)) ⟨r.h,r.o,rfl,by unfold cO;rw[if_pos (show 0<(x_.er (some v_.er)).N from h0)];exact hr,rfl⟩) (fun _=>rfl)
 ·refine aZ Wl fun us M nx K hk=> ?_
  obtain⟨e1,e2,e3,hk9⟩:=prB_true.1 hk
  subst e1;subst e2;subst e3
  have hs:=SI.o hp.1
  refine aW ⟨u_⟩ (aM rfl (aM hs ?_))
  refine aP fun r=>iI (fun hr=>hk9 _ _ _ _ (.inr (.inr ⟨u_,rfl,rfl,rfl,hb⟩)) ⟨r.h,r.o,rfl,by unfold cO;rw[if_neg kA];exact hr,rfl⟩) (fun _=>rfl)
theorem MY:gM 16 [] (fun s=>SI s) (fun s v s2=>∃(N:Int) (hh:Value) (m:List Int),v=aV true [.int 1 (.ofNat 0),.sint 3 N,.imm hh 2 Int m am]∧(N=s.N∧m=s.m)∧s2=s):=by
 intro s M n hf hp
 replace hp:=And.intro hp trivial
 rcases hf with⟨x_,rfl,rfl,rfl,hb,h0⟩|⟨x_,v_,rfl,rfl,rfl,hb,h0⟩|⟨u_,rfl,rfl,rfl,hb⟩
 ·refine aZ Wa fun us M nx K hk=> ?_
  obtain⟨e1,e2,e3,hk9⟩:=prB_true.1 hk
  subst e1;subst e2;subst e3
  have hs:=SI.n hp.1 h0
  refine aW ⟨x_⟩ (aM rfl (aM hs.1 ?_))
  refine aP fun r=>iI (fun hr=>hk9 _ _ _ _ (.inl ⟨x_,rfl,rfl,rfl,hb,h0⟩) ⟨r.N,r.h,r.m,rfl,hr,rfl⟩) (fun _=>rfl)
 ·refine aZ VY fun us M nx K hk=> ?_
  obtain⟨e1,e2,e3,hk9⟩:=prB_true.1 hk
  subst e1;subst e2;subst e3
  have hs:=SI.q hp.1 h0
  refine aW ⟨x_,v_⟩ (aM rfl (aM hs.1 ?_))
  refine aP fun r=>iI (fun hr=>hk9 _ _ _ _ (.inr (.inl ⟨x_,v_,rfl,rfl,rfl,hb,h0⟩)) ⟨r.N,r.h,r.m,rfl,hr,rfl⟩) (fun _=>rfl)
 ·refine aZ VZ fun us M nx K hk=> ?_
  obtain⟨e1,e2,e3,hk9⟩:=prB_true.1 hk
  subst e1;subst e2;subst e3
  have hs:=SI.o hp.1
  refine aW ⟨u_⟩ (aM rfl (aM hs ?_))
  refine aP fun r=>iI (fun hr=>hk9 _ _ _ _ (.inr (.inr ⟨u_,rfl,rfl,rfl,hb⟩)) ⟨r.N,r.h,r.m,rfl,hr,rfl⟩) (fun _=>rfl)
theorem Nb {mh:Value} {ml:List Int}:gM 27 [aV false [.imm mh 2 Int ml am]] (fun s=>SI s∧ml.length≤1000) (fun s v s2=>v= .tup []∧s2=(jt s ml)):=by
 intro s M n hf hp
 rcases hf with⟨x_,rfl,rfl,rfl,hb,h0⟩|⟨x_,v_,rfl,rfl,rfl,hb,h0⟩|⟨u_,rfl,rfl,rfl,hb⟩
 ·refine aZ Wj fun us M nx K hk=> ?_
  obtain⟨e1,e2,e3,hk9⟩:=prB_true.1 hk
  subst e1;subst e2;subst e3
  have hs:=SI.n hp.1 h0
  refine aW ⟨x_,mh,ml⟩ (aM rfl (aM ⟨hs.1,hp.2⟩ ?_))
  refine aP fun r=>iI (fun hr=>hk9 _ _ _ _ (.inl ⟨({x_ with th:=r.th,met:=r.met}:Si),rfl,rfl,rfl,hb,h0⟩) ⟨rfl,by unfold jt;exact congrArg (fun z=>({(x_.er none) with met:=z}:St)) hr⟩) (fun _=>rfl)
 ·refine aZ Wh fun us M nx K hk=> ?_
  obtain⟨e1,e2,e3,hk9⟩:=prB_true.1 hk
  subst e1;subst e2;subst e3
  have hs:=SI.q hp.1 h0
  refine aW ⟨x_,v_,mh,ml⟩ (aM rfl (aM ⟨hs.1,hp.2⟩ ?_))
  refine aP fun r=>iI (fun hr=>hk9 _ _ _ _ (.inr (.inl ⟨({x_ with th:=r.th,met:=r.met}:Si),v_,rfl,rfl,rfl,hb,h0⟩)) ⟨rfl,by unfold jt;exact congrArg (fun z=>({(x_.er (some v_.er)) with met:=z}:St)) hr⟩) (fun _=>rfl)
 ·refine aZ Wi fun us M nx K hk=> ?_
  obtain⟨e1,e2,e3,hk9⟩:=prB_true.1 hk
  subst e1;subst e2;subst e3
  have hs:=SI.o hp.1
  refine aW ⟨u_,mh,ml⟩ (aM rfl (aM ⟨hs,hp.2⟩ ?_))
  refine aP fun r=>iI (fun hr=>hk9 _ _ _ _ (.inr (.inr ⟨({u_ with th:=r.th,met:=r.met}:So),rfl,rfl,rfl,hb⟩)) ⟨rfl,by unfold jt;exact congrArg (fun z=>({u_.er with met:=z}:St)) hr⟩) (fun _=>rfl)
theorem Nf:gM 17 [] (fun s=>SI s) (fun s v s2=>v= .tup []∧s2=(gB s)):=by
 intro s M n hf hp
 replace hp:=And.intro hp trivial
 rcases hf with⟨x_,rfl,rfl,rfl,hb,h0⟩|⟨x_,v_,rfl,rfl,rfl,hb,h0⟩|⟨u_,rfl,rfl,rfl,hb⟩
 ·refine aZ Ws fun us M nx K hk=> ?_
  obtain⟨e1,e2,e3,hk9⟩:=prB_true.1 hk
  subst e1;subst e2;subst e3
  have hs:=SI.n hp.1 h0
  refine aW ⟨x_⟩ (aM rfl (aM hs.1 ?_))
  refine aP fun r=>iI (fun hr=>hk9 _ _ _ _ (.inl ⟨({x_ with wa:=r.wa}:Si),rfl,rfl,rfl,hb,h0⟩) ⟨rfl,by unfold gB;rw[if_pos (show 0<(x_.er none).N from h0)];exact congrArg (fun z=>({(x_.er none) with wa:=z}:St)) hr⟩) (fun _=>rfl)
 ·refine aZ Wq fun us M nx K hk=> ?_
  obtain⟨e1,e2,e3,hk9⟩:=prB_true.1 hk
  subst e1;subst e2;subst e3
  have hs:=SI.q hp.1 h0
  refine aW ⟨x_,v_⟩ (aM rfl (aM hs.1 ?_))
  refine aP fun r=>iI (fun hr=>hk9 _ _ _ _ (.inr (.inl ⟨({x_ with wa:=r.wa}:Si),v_,rfl,rfl,rfl,hb,h0⟩)) ⟨rfl,by unfold gB;rw[if_pos (show 0<(x_.er (some v_.er)).N from h0)];exact congrArg (fun z=>({(x_.er (some v_.er)) with wa:=z}:St)) hr⟩) (fun _=>rfl)
 ·refine aZ Wr fun us M nx K hk=> ?_
  obtain⟨e1,e2,e3,hk9⟩:=prB_true.1 hk
  subst e1;subst e2;subst e3
  have hs:=SI.o hp.1
  refine aW ⟨u_⟩ (aM rfl (aM hs ?_))
  refine aP fun r=>iI (fun hr=>hk9 _ _ _ _ (.inr (.inr ⟨({u_ with wa:=r.wa}:So),rfl,rfl,rfl,hb⟩)) ⟨rfl,by unfold gB;rw[if_neg kA];exact congrArg (fun z=>({u_.er with wa:=z}:St)) hr⟩) (fun _=>rfl)
theorem Nd:gM 18 [] (fun s=>SI s) (fun s v s2=>v= .tup []∧s2=(fe s)):=by
 intro s M n hf hp
 replace hp:=And.intro hp trivial
 rcases hf with⟨x_,rfl,rfl,rfl,hb,h0⟩|⟨x_,v_,rfl,rfl,rfl,hb,h0⟩|⟨u_,rfl,rfl,rfl,hb⟩
 ·refine aZ Wp fun us M nx K hk=> ?_
  obtain⟨e1,e2,e3,hk9⟩:=prB_true.1 hk
  subst e1;subst e2;subst e3
  have hs:=SI.n hp.1 h0
  refine aW ⟨x_⟩ (aM rfl (aM hs.1 ?_))
  refine aP fun r=>iI (fun hr=>hk9 _ _ _ _ (.inl ⟨({x_ with go:=r.go}:Si),rfl,rfl,rfl,hb,h0⟩) ⟨rfl,by unfold fe;rw[if_pos (show 0<(x_.er none).N from h0)];exact congrArg (fun z=>({(x_.er none) with go:=z}:St)) hr⟩) (fun _=>rfl)
 ·refine aZ Wn fun us M nx K hk=> ?_
  obtain⟨e1,e2,e3,hk9⟩:=prB_true.1 hk
  subst e1;subst e2;subst e3
  have hs:=SI.q hp.1 h0
  refine aW ⟨x_,v_⟩ (aM rfl (aM hs.1 ?_))
  refine aP fun r=>iI (fun hr=>hk9 _ _ _ _ (.inr (.inl ⟨({x_ with go:=r.go}:Si),v_,rfl,rfl,rfl,hb,h0⟩)) ⟨rfl,by unfold fe;rw[if_pos (show 0<(x_.er (some v_.er)).N from h0)];exact congrArg (fun z=>({(x_.er (some v_.er)) with go:=z}:St)) hr⟩) (fun _=>rfl)
 ·refine aZ Wo fun us M nx K hk=> ?_
  obtain⟨e1,e2,e3,hk9⟩:=prB_true.1 hk
  subst e1;subst e2;subst e3
  have hs:=SI.o hp.1
  refine aW ⟨u_⟩ (aM rfl (aM hs ?_))
  refine aP fun r=>iI (fun hr=>hk9 _ _ _ _ (.inr (.inr ⟨({u_ with go:=r.go}:So),rfl,rfl,rfl,hb⟩)) ⟨rfl,by unfold fe;rw[if_neg kA];exact congrArg (fun z=>({u_.er with go:=z}:St)) hr⟩) (fun _=>rfl)
theorem MZ {x:Int}:gM 20 [aV true [.sint 1 x,.int 2 (.ofNat 1)]] (fun s=>SI s) (fun s v s2=>v= .tup []∧s2=(nY s x)):=by
 intro s M n hf hp
 replace hp:=And.intro hp trivial
 rcases hf with⟨x_,rfl,rfl,rfl,hb,h0⟩|⟨x_,v_,rfl,rfl,rfl,hb,h0⟩|⟨u_,rfl,rfl,rfl,hb⟩
 ·refine aZ Wd fun us M nx K hk=> ?_
  obtain⟨e1,e2,e3,hk9⟩:=prB_true.1 hk
  subst e1;subst e2;subst e3
  have hs:=SI.n hp.1 h0
  refine aW ⟨x_,x⟩ (aM rfl (aM hs.1 ?_))
  refine aP fun r=>iI (fun hr=>hk9 _ _ _ _ (.inl ⟨({x_ with su:=r.su}:Si),rfl,rfl,rfl,hb,h0⟩) ⟨rfl,by unfold nY;rw[if_pos (show 0<(x_.er none).N from h0)];exact congrArg (fun z=>({(x_.er none) with su:=z}:St)) hr⟩) (fun _=>rfl)
 ·refine aZ Wb fun us M nx K hk=> ?_
  obtain⟨e1,e2,e3,hk9⟩:=prB_true.1 hk
  subst e1;subst e2;subst e3
  have hs:=SI.q hp.1 h0
  refine aW ⟨x_,v_,x⟩ (aM rfl (aM hs.1 ?_))
  refine aP fun r=>iI (fun hr=>hk9 _ _ _ _ (.inr (.inl ⟨({x_ with su:=r.su}:Si),v_,rfl,rfl,rfl,hb,h0⟩)) ⟨rfl,by unfold nY;rw[if_pos (show 0<(x_.er (some v_.er)).N from h0)];exact congrArg (fun z=>({(x_.er (some v_.er)) with su:=z}:St)) hr⟩) (fun _=>rfl)
 ·refine aZ Wc fun us M nx K hk=> ?_
  obtain⟨e1,e2,e3,hk9⟩:=prB_true.1 hk
  subst e1;subst e2;subst e3
  have hs:=SI.o hp.1
  refine aW ⟨u_,x⟩ (aM rfl (aM hs ?_))
  refine aP fun r=>iI (fun hr=>hk9 _ _ _ _ (.inr (.inr ⟨({u_ with su:=r.su}:So),rfl,rfl,rfl,hb⟩)) ⟨rfl,by unfold nY;rw[if_neg kA];exact congrArg (fun z=>({u_.er with su:=z}:St)) hr⟩) (fun _=>rfl)
theorem Na {x:Ke}:gM 24 [aV true [.int 1 (.ofNat 2),.int 1 (.ofNat 0),.int 2 (.ofNat 0),.int 3 (.ofNat 0),.int 1 (.ofNat 0),.int 1 (.ofNat 0),.int 1 (.ofNat 0),.int 1 (.ofNat 0),.int 1 (.ofNat 0),.int 1 (.ofNat 0),.int 1 (.ofNat 0),.int 3 (.ofNat 0),.nilS,.int 1 (.ofNat 0),.str [],.nilS,.sint 1 x.v,.sint 2 x.w]] (fun s=>SI s∧vF x) (fun s v s2=>∃(z:Int),v=aV false [.sint 0 z]∧True∧s2=(mV s x)):=by
 intro s M n hf hp
 rcases hf with⟨x_,rfl,rfl,rfl,hb,h0⟩|⟨x_,v_,rfl,rfl,rfl,hb,h0⟩|⟨u_,rfl,rfl,rfl,hb⟩
 ·refine aZ Wg fun us M nx K hk=> ?_
  obtain⟨e1,e2,e3,hk9⟩:=prB_true.1 hk
  subst e1;subst e2;subst e3
  have hs:=SI.n hp.1 h0
  refine aW ⟨x_,x⟩ (aM rfl (aM ⟨hs.1,hp.2⟩ ?_))
  refine aP fun r=>iI (fun hr=>hk9 _ _ _ _ (.inl ⟨({x_ with log:=r.log,com:=r.com,hs:=r.hs}:Si),rfl,rfl,rfl,hb,h0⟩) ⟨r.z,rfl,trivial,by unfold mV;rw[if_pos (show 0<(x_.er none).N from h0)];exact congrArg (fun z=>({(x_.er none) with log:=z.1,com:=z.2.1,hs:=z.2.2}:St)) hr⟩) (fun _=>rfl)
 ·refine aZ We fun us M nx K hk=> ?_
  obtain⟨e1,e2,e3,hk9⟩:=prB_true.1 hk
  subst e1;subst e2;subst e3
  have hs:=SI.q hp.1 h0
  refine aW ⟨x_,v_,x⟩ (aM rfl (aM ⟨hs.1,hp.2⟩ ?_))
  refine aP fun r=>iI (fun hr=>hk9 _ _ _ _ (.inr (.inl ⟨({x_ with log:=r.log,com:=r.com,hs:=r.hs}:Si),v_,rfl,rfl,rfl,hb,h0⟩)) ⟨r.z,rfl,trivial,by unfold mV;rw[if_pos (show 0<(x_.er (some v_.er)).N from h0)];exact congrArg (fun z=>({(x_.er (some v_.er)) with log:=z.1,com:=z.2.1,hs:=z.2.2}:St)) hr⟩) (fun _=>rfl)
 ·refine aZ Wf fun us M nx K hk=> ?_
  obtain⟨e1,e2,e3,hk9⟩:=prB_true.1 hk
  subst e1;subst e2;subst e3
  have hs:=SI.o hp.1
  refine aW ⟨u_,x⟩ (aM rfl (aM ⟨hs,hp.2⟩ ?_))
  refine aP fun r=>iI (fun hr=>hk9 _ _ _ _ (.inr (.inr ⟨u_,rfl,rfl,rfl,hb⟩)) ⟨r.z,rfl,trivial,by unfold mV;rw[if_neg kA]⟩) (fun _=>rfl)
structure kM where
 ps:List Value
 ss:List St
 n:Nat
 h:Value
 now:Int
structure Ga where
 hh:Value
 o:List Ou
def sM (p:kM) (r:Ga):Prop:=r.o.map Ou.er=(cg p.now (aI p.ss p.n)).2
noncomputable def je (p:kM):IE:=([.ptr 0 0,hv p.h,.sy (.int 0 p.now)],(.node .leaf (some (.opq (List Value×List St) (p.ps,p.ss) bK)) .leaf),1)
noncomputable def Bo (p:kM) (K:KE) (r:Ga):Bool:=K (.sy (.imm r.hh 33 Ou r.o cB)) (.node .leaf (some (.opq (List Value×List St) (p.ps,p.ss.set p.n (cg p.now (aI p.ss p.n)).1) bK)) .leaf) 1
noncomputable def jz (p:kM) (K:KE):Bool:=aj fun r=>iP (sM p r) (Bo p K r) true
def jw (p:kM):Prop:=p.ps[p.n]?=some p.h∧p.n<p.ss.length∧SI (aI p.ss p.n)∧(aI p.ss p.n).N+1<4294967295∧0≤p.now∧p.now≤1000000000
theorem YG {s:IE} {K:KE} (w:kM) (e:∀t,je w=t→s=t:=by first|(intro t h;dsimp only[je]at h;subst h;exact rfl)|fail) (g:jw w:=by first|((try dsimp only[jw,oL,oN,Int.reduceNegSucc]);first|done|exact yg|trivial|assumption|omega)|fail) (h:jz w K=true):Cl s je jw jz K:=wS w e g h
theorem Nu:dk Tryz.prog 50 1 (fg je (iu jw jz)):=by
 intro us xs E ρ G F M nx w K R hE hs hd hk0 hr
 obtain⟨p,hk1⟩:=bj hk0
 obtain⟨hI,hk2⟩:=ai hk1
 obtain⟨hpre,hk3⟩:=ai (show ac (aq (jw p)) (jz p K)=true from hk2)
 clear hk0 hk1 hk2
 have e1:us=(je p).1:=congrArg Prod.fst hI
 have e2:M=(je p).2.1:=congrArg (fun x=>x.2.1) hI
 have e3:nx=(je p).2.2:=congrArg (fun x=>x.2.2) hI
 subst e1;subst e2;subst e3
 refine lu (GH (now:=p.now)) (by intro u hu;simp only[List.mem_cons,List.not_mem_nil,or_false]at hu;subst hu;exact cM _ _) (by rintro s v s2 h;obtain⟨_,_,rfl,_⟩:=h;exact cM _ _) hpre.1 (dP hpre.2.1) hpre.2.2 _ xs E ρ G F _ _ w K R hE hs hd (prB_true.2 ⟨rfl,rfl,rfl,fun v s2 hpo=> ?_⟩) hr
 obtain⟨a_0,a_1,rfl,hq,e9⟩:=hpo
 have e8:p.ss.set p.n s2=p.ss.set p.n (cg p.now (aI p.ss p.n)).1:=by rw[e9]
 rw[e8]
 exact dx (p:=sM p ⟨a_0,a_1⟩) hq (aU hk3 ⟨a_0,a_1⟩)
noncomputable def JC:NN:=ia br Nu [(0,30)]
structure kO where
 ps:List Value
 ss:List St
 n:Nat
 h:Value
 now:Int
 fr:Int
 m:Mg
structure Gb where
 hh:Value
 o:List Ou
def sO (p:kO) (r:Gb):Prop:=r.o.map Ou.er=(bm p.now (aI p.ss p.n) p.fr p.m.er).2
noncomputable def jf (p:kO):IE:=([.ptr 0 0,hv p.h,.sy (.int 0 p.now),eu p.fr,jU p.m.k p.m.N p.m.fr p.m.c p.m.b p.m.acc [] p.m.vn p.m.vh p.m.vl p.m.pn p.m.pl (p.m.has=true) p.m.mh p.m.ml p.m.h p.m.l p.m.th p.m.tl],(.node .leaf (some (.opq (List Value×List St) (p.ps,p.ss) bK)) .leaf),1)
noncomputable def Br (p:kO) (K:KE) (r:Gb):Bool:=K (.sy (.imm r.hh 33 Ou r.o cB)) (.node .leaf (some (.opq (List Value×List St) (p.ps,p.ss.set p.n (bm p.now (aI p.ss p.n) p.fr p.m.er).1) bK)) .leaf) 1
noncomputable def jA (p:kO) (K:KE):Bool:=aj fun r=>iP (sO p r) (Br p K r) true
def jx (p:kO):Prop:=p.ps[p.n]?=some p.h∧p.n<p.ss.length∧SI (aI p.ss p.n)∧(aI p.ss p.n).N+1<4294967295∧0≤p.now∧p.now≤1000000000∧cE p.m.er∧p.m.vn<4294967295∧0≤p.fr∧p.fr<8
theorem YH {s:IE} {K:KE} (w:kO) (e:∀t,jf w=t→s=t:=by first|(intro t h;dsimp only[jf]at h;subst h;exact rfl)|fail) (g:jx w:=by first|((try dsimp only[jx,oL,oN,Int.reduceNegSucc]);first|done|exact yg|trivial|assumption|omega)|fail) (h:jA w K=true):Cl s jf jx jA K:=wS w e g h
theorem Nv:dk Tryz.prog 51 1 (fg jf (iu jx jA)):=by
 intro us xs E ρ G F M nx w K R hE hs hd hk0 hr
 obtain⟨p,hk1⟩:=bj hk0
 obtain⟨hI,hk2⟩:=ai hk1
 obtain⟨hpre,hk3⟩:=ai (show ac (aq (jx p)) (jA p K)=true from hk2)
 clear hk0 hk1 hk2
 have e1:us=(jf p).1:=congrArg Prod.fst hI
 have e2:M=(jf p).2.1:=congrArg (fun x=>x.2.1) hI
 have e3:nx=(jf p).2.2:=congrArg (fun x=>x.2.2) hI
 subst e1;subst e2;subst e3
 refine lu (GI (now:=p.now) (fr:=p.fr) (m:=p.m)) (by intro u hu;simp only[List.mem_cons,List.not_mem_nil,or_false]at hu;rcases hu with rfl|rfl|rfl<;>exact cM _ _) (by rintro s v s2 h;obtain⟨_,_,rfl,_⟩:=h;exact cM _ _) hpre.1 (dP hpre.2.1) hpre.2.2 _ xs E ρ G F _ _ w K R hE hs hd (prB_true.2 ⟨rfl,rfl,rfl,fun v s2 hpo=> ?_⟩) hr
 obtain⟨a_0,a_1,rfl,hq,e9⟩:=hpo
 have e8:p.ss.set p.n s2=p.ss.set p.n (bm p.now (aI p.ss p.n) p.fr p.m.er).1:=by rw[e9]
 rw[e8]
 exact dx (p:=sO p ⟨a_0,a_1⟩) hq (aU hk3 ⟨a_0,a_1⟩)
noncomputable def JD:NN:=ia JC Nv [(0,30)]
structure ry where
 ps:List Value
 ss:List St
 n:Nat
 h:Value
structure TR where
 z:Prop
def pH (p:ry) (r:TR):Prop:=(r.z↔0<(aI p.ss p.n).N)
noncomputable def pg (p:ry):IE:=([.ptr 0 0,hv p.h],(.node .leaf (some (.opq (List Value×List St) (p.ps,p.ss) bK)) .leaf),1)
noncomputable def uR (p:ry) (K:KE) (r:TR):Bool:=K (.sy (.bool r.z)) (.node .leaf (some (.opq (List Value×List St) (p.ps,p.ss) bK)) .leaf) 1
noncomputable def iY (p:ry) (K:KE):Bool:=aj fun r=>iP (pH p r) (uR p K r) true
def nz (p:ry):Prop:=p.ps[p.n]?=some p.h∧p.n<p.ss.length∧SI (aI p.ss p.n)
theorem Iu {s:IE} {K:KE} (w:ry) (e:∀t,pg w=t→s=t:=by first|(intro t h;dsimp only[pg]at h;subst h;exact rfl)|fail) (g:nz w:=by first|((try dsimp only[nz,oL,oN,Int.reduceNegSucc]);first|done|exact yg|trivial|assumption|omega)|fail) (h:iY w K=true):Cl s pg nz iY K:=wS w e g h
theorem adC:dk Tryz.prog 19 1 (fg pg (iu nz iY)):=by
 intro us xs E ρ G F M nx w K R hE hs hd hk0 hr
 obtain⟨p,hk1⟩:=bj hk0
 obtain⟨hI,hk2⟩:=ai hk1
 obtain⟨hpre,hk3⟩:=ai (show ac (aq (nz p)) (iY p K)=true from hk2)
 clear hk0 hk1 hk2
 have e1:us=(pg p).1:=congrArg Prod.fst hI
 have e2:M=(pg p).2.1:=congrArg (fun x=>x.2.1) hI
 have e3:nx=(pg p).2.2:=congrArg (fun x=>x.2.2) hI
 subst e1;subst e2;subst e3
 refine lu (Ng) (by intro u hu;cases hu) (by rintro s v s2 h;obtain⟨_,rfl,_⟩:=h;exact cM _ _) hpre.1 (dP hpre.2.1) hpre.2.2 _ xs E ρ G F _ _ w K R hE hs hd (prB_true.2 ⟨rfl,rfl,rfl,fun v s2 hpo=> ?_⟩) hr
 obtain⟨a_0,rfl,hq,e9⟩:=hpo
 have e8:p.ss.set p.n s2=p.ss:=by rw[e9];exact qQ
 rw[e8]
 exact dx (p:=pH p ⟨a_0⟩) hq (aU hk3 ⟨a_0⟩)
noncomputable def VC:NN:=ia JD adC [(0,30)]
structure rz where
 ps:List Value
 ss:List St
 n:Nat
 h:Value
structure TS where
 z:Int
def kY (p:rz) (r:TS):Prop:=r.z=cG (aI p.ss p.n)
noncomputable def pj (p:rz):IE:=([.ptr 0 0,hv p.h],(.node .leaf (some (.opq (List Value×List St) (p.ps,p.ss) bK)) .leaf),1)
noncomputable def nL (p:rz) (K:KE) (r:TS):Bool:=K (.sy (.int 0 r.z)) (.node .leaf (some (.opq (List Value×List St) (p.ps,p.ss) bK)) .leaf) 1
noncomputable def gw (p:rz) (K:KE):Bool:=aj fun r=>iP (kY p r) (nL p K r) true
def nA (p:rz):Prop:=p.ps[p.n]?=some p.h∧p.n<p.ss.length∧SI (aI p.ss p.n)
theorem vk {s:IE} {K:KE} (w:rz) (e:∀t,pj w=t→s=t:=by first|(intro t h;dsimp only[pj]at h;subst h;exact rfl)|fail) (g:nA w:=by first|((try dsimp only[nA,oL,oN,Int.reduceNegSucc]);first|done|exact yg|trivial|assumption|omega)|fail) (h:gw w K=true):Cl s pj nA gw K:=wS w e g h
theorem adD:dk Tryz.prog 12 1 (fg pj (iu nA gw)):=by
 intro us xs E ρ G F M nx w K R hE hs hd hk0 hr
 obtain⟨p,hk1⟩:=bj hk0
 obtain⟨hI,hk2⟩:=ai hk1
 obtain⟨hpre,hk3⟩:=ai (show ac (aq (nA p)) (gw p K)=true from hk2)
 clear hk0 hk1 hk2
 have e1:us=(pj p).1:=congrArg Prod.fst hI
 have e2:M=(pj p).2.1:=congrArg (fun x=>x.2.1) hI
 have e3:nx=(pj p).2.2:=congrArg (fun x=>x.2.2) hI
 subst e1;subst e2;subst e3
 refine lu (Nh) (by intro u hu;cases hu) (by rintro s v s2 h;obtain⟨_,rfl,_⟩:=h;exact cM _ _) hpre.1 (dP hpre.2.1) hpre.2.2 _ xs E ρ G F _ _ w K R hE hs hd (prB_true.2 ⟨rfl,rfl,rfl,fun v s2 hpo=> ?_⟩) hr
 obtain⟨a_0,rfl,hq,e9⟩:=hpo
 have e8:p.ss.set p.n s2=p.ss:=by rw[e9];exact qQ
 rw[e8]
 exact dx (p:=kY p ⟨a_0⟩) hq (aU hk3 ⟨a_0⟩)
noncomputable def VD:NN:=ia VC adD [(0,30)]
structure rv where
 ps:List Value
 ss:List St
 n:Nat
 h:Value
structure TQ where
 hh:Value
 o:List Ke
def uh (p:rv) (r:TQ):Prop:=r.o=cO (aI p.ss p.n)
noncomputable def pd (p:rv):IE:=([.ptr 0 0,hv p.h],(.node .leaf (some (.opq (List Value×List St) (p.ps,p.ss) bK)) .leaf),1)
noncomputable def Bp (p:rv) (K:KE) (r:TQ):Bool:=K (.sy (.imm r.hh 18 Ke r.o aF)) (.node .leaf (some (.opq (List Value×List St) (p.ps,p.ss) bK)) .leaf) 1
noncomputable def kE (p:rv) (K:KE):Bool:=aj fun r=>iP (uh p r) (Bp p K r) true
def nv (p:rv):Prop:=p.ps[p.n]?=some p.h∧p.n<p.ss.length∧SI (aI p.ss p.n)
theorem TI {s:IE} {K:KE} (w:rv) (e:∀t,pd w=t→s=t:=by first|(intro t h;dsimp only[pd]at h;subst h;exact rfl)|fail) (g:nv w:=by first|((try dsimp only[nv,oL,oN,Int.reduceNegSucc]);first|done|exact yg|trivial|assumption|omega)|fail) (h:kE w K=true):Cl s pd nv kE K:=wS w e g h
theorem adz:dk Tryz.prog 13 1 (fg pd (iu nv kE)):=by
 intro us xs E ρ G F M nx w K R hE hs hd hk0 hr
 obtain⟨p,hk1⟩:=bj hk0
 obtain⟨hI,hk2⟩:=ai hk1
 obtain⟨hpre,hk3⟩:=ai (show ac (aq (nv p)) (kE p K)=true from hk2)
 clear hk0 hk1 hk2
 have e1:us=(pd p).1:=congrArg Prod.fst hI
 have e2:M=(pd p).2.1:=congrArg (fun x=>x.2.1) hI
 have e3:nx=(pd p).2.2:=congrArg (fun x=>x.2.2) hI
 subst e1;subst e2;subst e3
 refine lu (Nc) (by intro u hu;cases hu) (by rintro s v s2 h;obtain⟨_,_,rfl,_⟩:=h;exact cM _ _) hpre.1 (dP hpre.2.1) hpre.2.2 _ xs E ρ G F _ _ w K R hE hs hd (prB_true.2 ⟨rfl,rfl,rfl,fun v s2 hpo=> ?_⟩) hr
 obtain⟨a_0,a_1,rfl,hq,e9⟩:=hpo
 have e8:p.ss.set p.n s2=p.ss:=by rw[e9];exact qQ
 rw[e8]
 exact dx (p:=uh p ⟨a_0,a_1⟩) hq (aU hk3 ⟨a_0,a_1⟩)
noncomputable def Vz:NN:=ia VD adz [(0,30)]
structure rr where
 ps:List Value
 ss:List St
 n:Nat
 h:Value
structure TO where
 N:Int
 hh:Value
 m:List Int
def nB (p:rr) (r:TO):Prop:=(r.N=(aI p.ss p.n).N∧r.m=(aI p.ss p.n).m)
noncomputable def pa (p:rr):IE:=([.ptr 0 0,hv p.h],(.node .leaf (some (.opq (List Value×List St) (p.ps,p.ss) bK)) .leaf),1)
noncomputable def pY (p:rr) (K:KE) (r:TO):Bool:=K (ll r.N r.hh r.m) (.node .leaf (some (.opq (List Value×List St) (p.ps,p.ss) bK)) .leaf) 1
noncomputable def hX (p:rr) (K:KE):Bool:=aj fun r=>iP (nB p r) (pY p K r) true
def nr (p:rr):Prop:=p.ps[p.n]?=some p.h∧p.n<p.ss.length∧SI (aI p.ss p.n)
theorem zH {s:IE} {K:KE} (w:rr) (e:∀t,pa w=t→s=t:=by first|(intro t h;dsimp only[pa]at h;subst h;exact rfl)|fail) (g:nr w:=by first|((try dsimp only[nr,oL,oN,Int.reduceNegSucc]);first|done|exact yg|trivial|assumption|omega)|fail) (h:hX w K=true):Cl s pa nr hX K:=wS w e g h
theorem adv:dk Tryz.prog 16 1 (fg pa (iu nr hX)):=by
 intro us xs E ρ G F M nx w K R hE hs hd hk0 hr
 obtain⟨p,hk1⟩:=bj hk0
 obtain⟨hI,hk2⟩:=ai hk1
 obtain⟨hpre,hk3⟩:=ai (show ac (aq (nr p)) (hX p K)=true from hk2)
 clear hk0 hk1 hk2
 have e1:us=(pa p).1:=congrArg Prod.fst hI
 have e2:M=(pa p).2.1:=congrArg (fun x=>x.2.1) hI
 have e3:nx=(pa p).2.2:=congrArg (fun x=>x.2.2) hI
 subst e1;subst e2;subst e3
 refine lu (MY) (by intro u hu;cases hu) (by rintro s v s2 h;obtain⟨_,_,_,rfl,_⟩:=h;exact cM _ _) hpre.1 (dP hpre.2.1) hpre.2.2 _ xs E ρ G F _ _ w K R hE hs hd (prB_true.2 ⟨rfl,rfl,rfl,fun v s2 hpo=> ?_⟩) hr
 obtain⟨a_0,a_1,a_2,rfl,hq,e9⟩:=hpo
 have e8:p.ss.set p.n s2=p.ss:=by rw[e9];exact qQ
 rw[e8]
 exact dx (p:=nB p ⟨a_0,a_1,a_2⟩) hq (aU hk3 ⟨a_0,a_1,a_2⟩)
noncomputable def Vv:NN:=ia Vz adv [(0,30)]
structure zK where
 ps:List Value
 ss:List St
 n:Nat
 h:Value
 mh:Value
 ml:List Int
noncomputable def pc (p:zK):IE:=([.ptr 0 0,hv p.h,.sy (.imm p.mh 2 Int p.ml am)],(.node .leaf (some (.opq (List Value×List St) (p.ps,p.ss) bK)) .leaf),1)
noncomputable def nD (p:zK) (K:KE):Bool:=K (.tup []) (.node .leaf (some (.opq (List Value×List St) (p.ps,p.ss.set p.n (jt (aI p.ss p.n) p.ml)) bK)) .leaf) 1
def nu (p:zK):Prop:=p.ps[p.n]?=some p.h∧p.n<p.ss.length∧SI (aI p.ss p.n)∧p.ml.length≤1000
theorem aiD {s:IE} {K:KE} (w:zK) (e:∀t,pc w=t→s=t:=by first|(intro t h;dsimp only[pc]at h;subst h;exact rfl)|fail) (g:nu w:=by first|((try dsimp only[nu,oL,oN,Int.reduceNegSucc]);first|done|exact yg|trivial|assumption|omega)|fail) (h:nD w K=true):Cl s pc nu nD K:=wS w e g h
theorem ady:dk Tryz.prog 27 1 (fg pc (iu nu nD)):=by
 intro us xs E ρ G F M nx w K R hE hs hd hk0 hr
 obtain⟨p,hk1⟩:=bj hk0
 obtain⟨hI,hk2⟩:=ai hk1
 obtain⟨hpre,hk3⟩:=ai (show ac (aq (nu p)) (nD p K)=true from hk2)
 clear hk0 hk1 hk2
 have e1:us=(pc p).1:=congrArg Prod.fst hI
 have e2:M=(pc p).2.1:=congrArg (fun x=>x.2.1) hI
 have e3:nx=(pc p).2.2:=congrArg (fun x=>x.2.2) hI
 subst e1;subst e2;subst e3
 refine lu (Nb (mh:=p.mh) (ml:=p.ml)) (by intro u hu;simp only[List.mem_cons,List.not_mem_nil,or_false]at hu;subst hu;exact cM _ _) (by rintro s v s2 h;obtain⟨rfl,_⟩:=h;exact mc) hpre.1 (dP hpre.2.1) hpre.2.2 _ xs E ρ G F _ _ w K R hE hs hd (prB_true.2 ⟨rfl,rfl,rfl,fun v s2 hpo=> ?_⟩) hr
 obtain⟨rfl,e9⟩:=hpo
 have e8:p.ss.set p.n s2=p.ss.set p.n (jt (aI p.ss p.n) p.ml):=by rw[e9]
 rw[e8]
 exact hk3
end Go.Proofs.Tryz
