/- Definitions and lemmas of the proof, without a condition of their own. -/
import Derived.Test.YtdangmomddpegaaGreatDoorM2
import Derived.Test.YtdangmomddpegaaGreatDoorChecked
import Derived.KernelRfl
import Derived.Test.YtdangmomddpegaaGreatDoorProg
open List renaming append_assoc→acL,cons_append→acK,length_append→acC,length_cons→acD,length_map→acE,length_nil→acF,length_take→acT,map_append→acR,map_cons→acJ,map_nil→acO,nil_append→acM
open UInt8 renaming ofNat→ac0
namespace Go.Proofs.YtdangmomddpegaaGreatDoor
open Go Go.RowKit Go.Eng
set_option linter.unusedVariables false
set_option linter.unnecessarySimpa false
set_option maxHeartbeats 4000000
set_option maxRecDepth 100000
theorem Cu:ia Tryz.prog 37=some false:=by kernel_rfl
theorem Ct:ia Tryz.prog 40=some false:=by kernel_rfl
theorem fi:ia Tryz.prog 5=some false:=by kernel_rfl
theorem tc:ia Tryz.prog 72=some true:=by kernel_rfl
theorem Dr:ll Tryz.prog 9 1 16=true:=by kernel_rfl
theorem pf:jU Tryz.prog 71 0=some 0:=by kernel_rfl
theorem pe:jU Tryz.prog 71 1=some 1:=by kernel_rfl
theorem iW:jU Tryz.prog 72 0=some 0:=by kernel_rfl
theorem iV:jU Tryz.prog 72 1=some 1:=by kernel_rfl
theorem fx:jU Tryz.prog 75 0=some 0:=by kernel_rfl
theorem pd:jU Tryz.prog 75 1=some 2:=by kernel_rfl
theorem pc:jU Tryz.prog 75 2=some 3:=by kernel_rfl
theorem pb:jU Tryz.prog 75 3=some 4:=by kernel_rfl
theorem sT:sr Tryz.prog 32=some (false,false):=by kernel_rfl
theorem Qz:sr Tryz.prog 64=some (false,false):=by kernel_rfl
theorem wO:sr Tryz.prog 67=some (false,false):=by kernel_rfl
theorem Io:sr Tryz.prog 70=some (false,false):=by kernel_rfl
theorem wN:sr Tryz.prog 73=some (false,false):=by kernel_rfl
theorem di:cj Tryz.prog 72=some 2:=by kernel_rfl
theorem xy:Tryz.prog.underlying 143=some (.slice 9):=by kernel_rfl
theorem eU:Tryz.prog.underlying 191=some (.slice 72):=by kernel_rfl
theorem aca:Tryz.prog.underlying 2=some (.int .i64):=by kernel_rfl
theorem cy:Tryz.prog.underlying 3=some (.int .i64):=by kernel_rfl
theorem vB:Tryz.prog.underlying 37=some (.int .u16):=by kernel_rfl
theorem vA:Tryz.prog.underlying 40=some (.int .u32):=by kernel_rfl
theorem du:Tryz.prog.underlying 5=some (.int .u8):=by kernel_rfl
theorem vz:Tryz.prog.underlying 73=some (.array 3 72):=by kernel_rfl
theorem lc:mY Tryz.prog 72=some #[.int .u8 0,.int .u8 0]:=by kernel_rfl
abbrev Jj (G:GS):Prop:=GVar Tryz.prog "internal/strconv.uint64pow10" (Lib.pow10Tab.map fun z=>Value.int .u64 z).toArray G
theorem fH (n:Int) {G:GS} {w:World} {F:List aH} (h_n:PN n) (ht:Jj G) (h:Holds G w F):Calls Tryz.prog 32 #[.int .i64 n] w (Ret G F fun _ v=>v=S (Lib.itoa n)):=
 (Tryz.strconv_Itoa n h_n.1 h_n.2 w (ht.var h)).mono fun _ _ ⟨he,k,os,hw⟩=>⟨_,G,he,GS.Le.refl G,h.ext (hw▸xj w k os),rfl⟩
theorem wk (ao:Option Addr) (cap:Nat) (ws:List (List UInt8)) (sep:List UInt8) {G:GS} {w:World} {F:List aH} (h_ws:RdF MU 1 G.M ao cap ws) (hl:(Lib.join ws sep).length≤140737488355328) (hn:ws.length≤140737488355328) (h:Holds G w F):
  Calls Tryz.prog 64 #[.slice ao ws.length cap,S sep] w (Ret G F fun _ v=>v=S (Lib.join ws sep)):=by
 rcases Nat.eq_zero_or_pos ws.length with h0|h0
 ·have:ws=[]:=List.eq_nil_of_length_eq_zero h0
  subst this
  refine(Tryz.strings_Join_none ao cap ⟨sep.toArray⟩ w).mono fun _ _ ⟨he,hw⟩=>⟨_,G,he,GS.Le.refl G,hw▸h,rfl⟩
 ·have ha:=h_ws.addr h0
  have e1:(ws.map fun x=>(⟨x.toArray⟩:ByteArray)).map (fun b=>b.data.toList)=ws:=by simp[Function.comp_def]
  have hb:blk ao<w.heap.size:=by
   have hc:=h_ws.row 0 ws[0] (by simp) 0 (S ws[0]) rfl
   simp only[Nat.zero_mul,Nat.add_zero]at hc
   have:=h.cellM hc
   unfold World.cell? at this
   rcases hh:w.heap[blk ao]? with _|o
   ·simp[hh]at this
   ·exact bQ hh
  have hj:=Tryz.strings_Join (blk ao) (lI ao) cap (ws.map fun x=>(⟨x.toArray⟩:ByteArray)) ⟨sep.toArray⟩ w (fun j x hx=>by
   rw[List.getElem?_map,Option.map_eq_some_iff]at hx
   obtain⟨y,hy,rfl⟩:=hx
   have hc:=h_ws.row j y hy 0 (S y) rfl
   simp only[Nat.mul_one,Nat.add_zero]at hc
   exact h.cellM hc) hb (by simpa using hn) (by simpa using h_ws.le) (by rw[e1];exact hl)
  rw[e1,acE,←ha]at hj
  exact hj.mono fun _ _ ⟨he,hw⟩=>⟨_,G,he,GS.Le.refl G,h.ext hw,rfl⟩
theorem fZ (m:Int) (n:Int) {G:GS} {w:World} {F:List aH} (h_m: -9223372036854775808≤m∧m≤9223372036854775807) (h_n: -9223372036854775808≤n∧n≤9223372036854775807) (ht:Jj G) (h:Holds G w F):
  Calls Tryz.prog 73 #[.int .i64 m,.int .i64 n] w (Ret G F fun G v=>v=S (aE m n)):=by
 refine enter (N:=11) (L:=[(0,.int .i64 m),(1,.int .i64 n)]) rfl Tryz.func73 rfl rfl rfl (fun a0 s0=> ?_)
 refine wp_seq ?_
 refine wp_region_lit ?_
 refine ae s0 rfl (fun _ k=>aZ (s0.ev rfl) k) (fun a1 s2=> ?_)
 refine wpList_nil ?_
 refine aj ?_
 refine wp_seq ?_
 refine wp_region_lit ?_
 refine ae s2 rfl (fun _ k=>bd (s2.ev rfl) k) (fun a3 s4=> ?_)
 refine db s4 rfl sT rfl (fH m (by omega) ht h) (fun a5 w7 v12 G9 hs13 h8 hv11 s6=> ?_)
 subst hv11
 have ht:=ht.mono hs13
 have hG10:=(GS.Le.refl _).trans hs13
 have hL_1192:=Lib.itoa_length_le m (by omega) (by omega)
 refine ae s6 rfl (fun _ k=>dt (s6.ev rfl) (s6.ev rfl) (by first|omega|(simp only[acC,acD,acF];omega)) k) (fun a14 s15=> ?_)
 refine ae s15 rfl (fun _ k=>bd (s15.ev rfl) k) (fun a16 s17=> ?_)
 refine db s17 rfl sT rfl (fH n (by omega) ht h8) (fun a18 w20 v25 G22 hs26 h21 hv24 s19=> ?_)
 subst hv24
 have ht:=ht.mono hs26
 have hG23:=hG10.trans hs26
 have hL_832146:=Lib.itoa_length_le n (by omega) (by omega)
 refine ae s19 rfl (fun _ k=>dt (s19.ev rfl) (s19.ev rfl) (by first|omega|(simp only[acC,acD,acF];omega)) k) (fun a27 s28=> ?_)
 refine ae s28 rfl (fun _ k=>aZ (s28.ev rfl) k) (fun a29 s30=> ?_)
 refine wpList_nil ?_
 refine aj ?_
 refine wp_ret ?_
 refine lG s30 rfl rfl ⟨_,_,rfl,hG23,h21,?_⟩
 rfl
theorem Hl:∀(m0:Nat) (n:Int) {G:GS} {w:World} {F:List aH} (hm0:n.natAbs+(-n).toNat<m0) (h_n: -9223372036854775808≤n∧n≤9223372036854775807) (h:Holds G w F),
  Calls Tryz.prog 70 #[.int .i64 n] w (Ret G F fun G v=>v=S (Lib.itoa n)):=by
 intro m0
 induction m0 with
 |zero=>intro n G w F hm0;omega
 |succ m0 ih=>
 intro n G w F hm0 h_n h
 refine enter (N:=35) (L:=[(0,.int .i64 n)]) rfl Tryz.func70 rfl rfl rfl (fun a0 s0=> ?_)
 refine wp_seq ?_
 refine wp_region_lit ?_
 refine ae s0 rfl (fun _ k=>aZ (s0.ev rfl) k) (fun a1 s2=> ?_)
 refine wpList_nil ?_
 refine aj ?_
 refine wp_seq ?_
 refine wp_seq ?_
 refine wp_region_lit ?_
 refine ae s2 rfl (fun _ k=>bd (s2.ev rfl) k) (fun a3 s4=> ?_)
 refine ae s4 rfl (fun _ k=>fm (s4.ev rfl) (s4.ev rfl) k) (fun a5 s6=> ?_)
 refine wpList_nil ?_
 refine aj ?_
 refine Qv s6 rfl (fun hc7=> ?_) (fun hc7=> ?_)
 ·
  refine wp_seq ?_
  refine wp_seq ?_
  refine wp_region_lit ?_
  refine ae s6 rfl (fun _ k=>bd (s6.ev rfl) k) (fun a8 s9=> ?_)
  refine ae s9 rfl (fun _ k=>fm (s9.ev rfl) (s9.ev rfl) k) (fun a10 s11=> ?_)
  refine wpList_nil ?_
  refine aj ?_
  refine Qv s11 rfl (fun hc12=> ?_) (fun hc12=> ?_)
  ·
   refine wp_seq ?_
   refine wp_region_lit ?_
   refine ae s11 rfl (fun _ k=>bd (s11.ev rfl) k) (fun a13 s14=> ?_)
   refine ae s14 rfl (fun _ k=>WD (s14.ev rfl) (s14.ev rfl) (by omega) (UM (by omega)) (aU (by omega) (by omega)) k) (fun a15 s16=> ?_)
   refine ae s16 rfl (fun _ k=>QD (s16.ev rfl) (aU (by omega) (by omega)) k) (fun a17 s18=> ?_)
   refine db s18 rfl Io rfl (ih (0 - (-((-n) / 10))) (by omega) (by omega) h) (fun a19 w21 v26 G23 hs27 h22 hv25 s20=> ?_)
   subst hv25
   have hG24:=(GS.Le.refl _).trans hs27
   have hL_171735:=dp (0 - (-((-n) / 10))) (by constructor<;>omega)
   refine ae s20 rfl (fun _ k=>dt (s20.ev rfl) (s20.ev rfl) (by first|omega|(simp only[acC,acD,acF];omega)) k) (fun a28 s29=> ?_)
   refine ae s29 rfl (fun _ k=>bd (s29.ev rfl) k) (fun a30 s31=> ?_)
   refine ae s31 rfl (fun _ k=>WC (s31.ev rfl) (s31.ev rfl) (by omega) (UJ (by omega)) k) (fun a32 s33=> ?_)
   refine ae s33 rfl (fun _ k=>QD (s33.ev rfl) (aU (by omega) (by omega)) k) (fun a34 s35=> ?_)
   refine db s35 rfl Io rfl (ih (0 - (-((-n) % 10))) (by omega) (by omega) h22) (fun a36 w38 v43 G40 hs44 h39 hv42 s37=> ?_)
   subst hv42
   have hG41:=hG24.trans hs44
   have hL_257073:=dp (0 - (-((-n) % 10))) (by constructor<;>omega)
   refine ae s37 rfl (fun _ k=>dt (s37.ev rfl) (s37.ev rfl) (by first|omega|(simp only[acC,acD,acF];omega)) k) (fun a45 s46=> ?_)
   refine ae s46 rfl (fun _ k=>aZ (s46.ev rfl) k) (fun a47 s48=> ?_)
   refine wpList_nil ?_
   refine aj ?_
   refine wp_ret ?_
   refine yu ?_
   refine yu ?_
   refine lG s48 rfl rfl ⟨_,_,rfl,hG41,h39,?_⟩
   first|(rw[rL n (by omega)];done)|(rw[qd n (by omega)];done)|(rw[qb n (by omega) (by omega)];done)|(rw[sw n (by omega)];done)
  ·
   refine wp_skip ?_
   refine aj ?_
   refine wp_seq ?_
   refine wp_region_lit ?_
   refine ae s11 rfl (fun _ k=>bd (s11.ev rfl) k) (fun a49 s50=> ?_)
   refine ae s50 rfl (fun _ k=>QD (s50.ev rfl) (aU (by omega) (by omega)) k) (fun a51 s52=> ?_)
   refine db s52 rfl Io rfl (ih (0 - n) (by omega) (by omega) h) (fun a53 w55 v60 G57 hs61 h56 hv59 s54=> ?_)
   subst hv59
   have hG58:=(GS.Le.refl _).trans hs61
   have hL_219755:=dp (0 - n) (by constructor<;>omega)
   refine ae s54 rfl (fun _ k=>dt (s54.ev rfl) (s54.ev rfl) (by first|omega|(simp only[acC,acD,acF];omega)) k) (fun a62 s63=> ?_)
   refine ae s63 rfl (fun _ k=>aZ (s63.ev rfl) k) (fun a64 s65=> ?_)
   refine wpList_nil ?_
   refine aj ?_
   refine wp_ret ?_
   refine yu ?_
   refine lG s65 rfl rfl ⟨_,_,rfl,hG58,h56,?_⟩
   first|(rw[rL n (by omega)];done)|(rw[qd n (by omega)];done)|(rw[qb n (by omega) (by omega)];done)|(rw[sw n (by omega)];done)
 ·
  refine wp_skip ?_
  refine aj ?_
  refine wp_seq ?_
  refine wp_seq ?_
  refine wp_region_lit ?_
  refine ae s6 rfl (fun _ k=>bd (s6.ev rfl) k) (fun a66 s67=> ?_)
  refine ae s67 rfl (fun _ k=>fm (s67.ev rfl) (s67.ev rfl) k) (fun a68 s69=> ?_)
  refine wpList_nil ?_
  refine aj ?_
  refine Qv s69 rfl (fun hc70=> ?_) (fun hc70=> ?_)
  ·
   refine wp_seq ?_
   refine wp_region_lit ?_
   refine ae s69 rfl (fun _ k=>bd (s69.ev rfl) k) (fun a71 s72=> ?_)
   refine ae s72 rfl (fun _ k=>nh (s72.ev rfl) (s72.ev rfl) (aU (by omega) (by omega)) k) (fun a73 s74=> ?_)
   refine ae s74 rfl (fun _ k=>bx (s74.ev rfl) aca du (HP (by omega) (by omega)) k) (fun a75 s76=> ?_)
   refine dK s76 rfl h (vs:=[(0,.int .u8 (48+n))]) (cl:=[.int .u8 (48+n)]) (E:=5) rfl (fun w=>by kernel_rfl) (fun a78 w80 b77 s79 h81=> ?_)
   have h81:Holds _ _ ([(b77,.cells #[.int .u8 (48+n)] 5 (0,0))]::F):=h81
   refine ae s79 rfl (fun _ k=>XJ (d:=.bool) (s79.ev rfl) AY du UG (cs:=[.int .u8 (48+n)]) (zs:=[48+n]) rfl rfl (h81.rowI 0 0 (o:=0) rfl rfl rfl) (bs:=[ac0 ((48+n).toNat)]) rfl k) (fun a82 s83=> ?_)
   refine ae s83 rfl (fun _ k=>aZ (s83.ev rfl) k) (fun a84 s85=> ?_)
   refine wpList_nil ?_
   refine aj ?_
   refine wp_ret ?_
   refine yu ?_
   refine lG s85 rfl rfl ⟨_,_,rfl,(GS.Le.refl _),h81.drop,?_⟩
   first|(rw[rL n (by omega)];done)|(rw[qd n (by omega)];done)|(rw[qb n (by omega) (by omega)];done)|(rw[sw n (by omega)];done)
  ·
   refine wp_skip ?_
   refine aj ?_
   refine wp_seq ?_
   refine wp_region_lit ?_
   refine ae s69 rfl (fun _ k=>bd (s69.ev rfl) k) (fun a86 s87=> ?_)
   refine ae s87 rfl (fun _ k=>WD (s87.ev rfl) (s87.ev rfl) (by omega) (UL (by omega)) (aU (by omega) (by omega)) k) (fun a88 s89=> ?_)
   refine db s89 rfl Io rfl (ih (n / 10) (by omega) (by omega) h) (fun a90 w92 v97 G94 hs98 h93 hv96 s91=> ?_)
   subst hv96
   have hG95:=(GS.Le.refl _).trans hs98
   have hL_798107:=dp (n / 10) (by constructor<;>omega)
   refine ae s91 rfl (fun _ k=>bd (s91.ev rfl) k) (fun a99 s100=> ?_)
   refine ae s100 rfl (fun _ k=>WC (s100.ev rfl) (s100.ev rfl) (by omega) (UI (by omega)) k) (fun a101 s102=> ?_)
   refine db s102 rfl Io rfl (ih (n % 10) (by omega) (by omega) h93) (fun a103 w105 v110 G107 hs111 h106 hv109 s104=> ?_)
   subst hv109
   have hG108:=hG95.trans hs111
   have hL_312447:=dp (n % 10) (by constructor<;>omega)
   refine ae s104 rfl (fun _ k=>dt (s104.ev rfl) (s104.ev rfl) (by first|omega|(simp only[acC,acD,acF];omega)) k) (fun a112 s113=> ?_)
   refine ae s113 rfl (fun _ k=>aZ (s113.ev rfl) k) (fun a114 s115=> ?_)
   refine wpList_nil ?_
   refine aj ?_
   refine wp_ret ?_
   refine lG s115 rfl rfl ⟨_,_,rfl,hG108,h106,?_⟩
   first|(rw[rL n (by omega)];done)|(rw[qd n (by omega)];done)|(rw[qb n (by omega) (by omega)];done)|(rw[sw n (by omega)];done)
theorem Em (n:Int) {G:GS} {w:World} {F:List aH} (h_n: -9223372036854775808≤n∧n≤9223372036854775807) (h:Holds G w F):
  Calls Tryz.prog 70 #[.int .i64 n] w (Ret G F fun G v=>v=S (Lib.itoa n)):=Hl (n.natAbs+(-n).toNat+1) n (Nat.lt_succ_self _) h_n h
theorem Vh (n:Int) {G:GS} {w:World} {F:List aH} (h_n: -9223372036854775808≤n∧n≤9223372036854775807) (h:Holds G w F):
  Calls Tryz.prog 35 #[.int .i64 n] w (Ret G F fun G v=>v=S (Lib.itoa n)):=by
 refine enter (N:=5) (L:=[(0,.int .i64 n)]) rfl Tryz.func35 rfl rfl rfl (fun a0 s0=> ?_)
 refine wp_seq ?_
 refine wp_region_lit ?_
 refine ae s0 rfl (fun _ k=>aZ (s0.ev rfl) k) (fun a1 s2=> ?_)
 refine wpList_nil ?_
 refine aj ?_
 refine wp_seq ?_
 refine wp_region_lit ?_
 refine ae s2 rfl (fun _ k=>bd (s2.ev rfl) k) (fun a3 s4=> ?_)
 refine db s4 rfl Io rfl (Em n (by omega) h) (fun a5 w7 v12 G9 hs13 h8 hv11 s6=> ?_)
 subst hv11
 have hG10:=(GS.Le.refl _).trans hs13
 have hL_832146:=dp n (by constructor<;>omega)
 refine ae s6 rfl (fun _ k=>aZ (s6.ev rfl) k) (fun a14 s15=> ?_)
 refine wpList_nil ?_
 refine aj ?_
 refine wp_ret ?_
 refine lG s15 rfl rfl ⟨_,_,rfl,hG10,h8,?_⟩
 rfl
abbrev dV (d:ID):Array Value:= #[.int .u8 d.client.node,.int .u16 d.client.life,.int .u32 d.seq,.int .u8 d.depth,.int .u8 d.p0.group,.int .u8 d.p0.index,.int .u8 d.p1.group,.int .u8 d.p1.index,.int .u8 d.p2.group,.int .u8 d.p2.index]
theorem SW (d:ID) {G:GS} {w:World} {F:List aH} (h_d:d.ok) (ht:Jj G) (h:Holds G w F):
  Calls Tryz.prog 39 #[.agg #[.int .u8 d.client.node,.int .u16 d.client.life,.int .u32 d.seq,.int .u8 d.depth,.int .u8 d.p0.group,.int .u8 d.p0.index,.int .u8 d.p1.group,.int .u8 d.p1.index,.int .u8 d.p2.group,.int .u8 d.p2.index]] w (Ret G F fun G v=>v=S (ah d)):=by
 obtain⟨⟨⟨hi1,hi2⟩,hi3,hi4⟩,⟨hi5,hi6⟩,⟨hi7,hi8⟩,⟨⟨hj1,hj2⟩,hj3,hj4⟩,⟨⟨hj5,hj6⟩,hj7,hj8⟩,⟨hk1,hk2⟩,hk3,hk4⟩:=h_d
 have hLa:=dp d.client.node (by constructor<;>omega)
 have hLa:=dp d.client.life (by constructor<;>omega)
 have hLa:=dp d.seq (by constructor<;>omega)
 have hLa:=dp d.p0.group (by constructor<;>omega)
 have hLa:=dp d.p0.index (by constructor<;>omega)
 have hLa:=dp d.p1.group (by constructor<;>omega)
 have hLa:=dp d.p1.index (by constructor<;>omega)
 have hLa:=dp d.p2.group (by constructor<;>omega)
 have hLa:=dp d.p2.index (by constructor<;>omega)
 have hLa:=cq d.client.node d.client.life (by constructor<;>omega) (by constructor<;>omega)
 have hLa:=cq d.p0.group d.p0.index (by constructor<;>omega) (by constructor<;>omega)
 have hLa:=cq d.p1.group d.p1.index (by constructor<;>omega) (by constructor<;>omega)
 have hLa:=cq d.p2.group d.p2.index (by constructor<;>omega) (by constructor<;>omega)
 refine enter (N:=44) (L:=[(0,.agg (dV d))]) rfl Tryz.func39 rfl rfl rfl (fun a0 s0=> ?_)
 rcases(show d.depth≤0∨d.depth=1∨d.depth=2∨3≤d.depth by omega) with hd|hd|hd|hd
 ·
  refine wp_seq ?_
  refine wp_region_lit ?_
  refine vK s0 rfl rfl h (fun a2 w4 b1 s3 h5=> ?_)
  have h5:Holds _ _ ([(b1,.cells (dV d) 75 (0,0))]::F):=h5
  refine ae s3 rfl (fun _ k=>aZ (s3.ev rfl) k) (fun a6 s7=> ?_)
  refine wpList_nil ?_
  refine aj ?_
  refine wp_seq ?_
  have hok:vP 44 [(1,.pointer (some ⟨b1,0,none⟩)),(2,S [])] [(some 6,Fact.eq (.pointer (some ⟨b1,0,none⟩))),(some 7,Fact.eq (.pointer (some ⟨b1,0,none⟩))),(some 8,Fact.eq (.int .u8 d.client.node)),(some 9,Fact.eq (.int .i64 d.client.node)),(some 10,Fact.eq (.pointer (some ⟨b1,0,none⟩))),(some 11,Fact.eq (.pointer (some ⟨b1,1,none⟩))),(some 12,Fact.eq (.int .u16 d.client.life)),(some 13,Fact.eq (.int .i64 d.client.life)),(some 14,Fact.eq (S (aE d.client.node d.client.life))),(some 15,Fact.eq (.pointer (some ⟨b1,2,none⟩))),(some 16,Fact.eq (.int .u32 d.seq)),(some 17,Fact.eq (.int .i64 d.seq))] []=true:=rfl
  refine pH 12 [1,2,3,8,5,6,7,8,12,10,11,12,13,14] (N:=44) (L0:=[(1,.pointer (some ⟨b1,0,none⟩)),(2,S [])]) (X:=[(some 6,Fact.eq (.pointer (some ⟨b1,0,none⟩))),(some 7,Fact.eq (.pointer (some ⟨b1,0,none⟩))),(some 8,Fact.eq (.int .u8 d.client.node)),(some 9,Fact.eq (.int .i64 d.client.node)),(some 10,Fact.eq (.pointer (some ⟨b1,0,none⟩))),(some 11,Fact.eq (.pointer (some ⟨b1,1,none⟩))),(some 12,Fact.eq (.int .u16 d.client.life)),(some 13,Fact.eq (.int .i64 d.client.life)),(some 14,Fact.eq (S (aE d.client.node d.client.life))),(some 15,Fact.eq (.pointer (some ⟨b1,2,none⟩))),(some 16,Fact.eq (.int .u32 d.seq)),(some 17,Fact.eq (.int .i64 d.seq))]) (O:=[]) (HR:=fun D a _ H=>H=([(b1,.cells (dV d) 75 (0,0))]::F)) mixed rfl rfl rfl h5 rfl (s7.sub (all_cons rfl (all_cons rfl (lA)))) (fun i k t v hi=>by simp at hi) ⟨?_,?_,?_,?_,?_,?_,?_,?_,?_,?_,?_,?_,trivial⟩ (fun D a w G H hall j=> ?_)
  ·exact ay rfl (fun D a w G H hR j=>by(have s:=j.sf;exact ax (s.ev rfl) fx (j.did hok rfl (GS.Le.refl _) j.holds j.hr rfl)))
  ·exact ay rfl (fun D a w G H hR j=>by(have s:=(j.sf.know _ _ (j.gotE 0 rfl (hR.was rfl 0 rfl)));exact ax (s.ev rfl) pf (j.did hok rfl (GS.Le.refl _) j.holds j.hr rfl)))
  ·exact ay rfl (fun D a w G H hR j=>by(have hH:=j.hr;subst H;have s:=(j.sf.know _ _ (j.gotE 1 rfl (hR.was rfl 1 rfl)));exact aO (s.ev rfl) fi ((j.holds.rowI 0 0 (cs:=[.int .u8 d.client.node]) (o:=0) rfl rfl rfl) 0 _ rfl) (j.did hok rfl (GS.Le.refl _) j.holds j.hr rfl)))
  ·exact ay rfl (fun D a w G H hR j=>by(have s:=(j.sf.know _ _ (j.gotE 2 rfl (hR.was rfl 2 rfl)));exact bx (s.ev rfl) du cy (aU (by omega) (by omega)) (j.did hok rfl (GS.Le.refl _) j.holds j.hr rfl)))
  ·exact ay rfl (fun D a w G H hR j=>by(have s:=j.sf;exact ax (s.ev rfl) fx (j.did hok rfl (GS.Le.refl _) j.holds j.hr rfl)))
  ·exact ay rfl (fun D a w G H hR j=>by(have s:=(j.sf.know _ _ (j.gotE 4 rfl (hR.was rfl 4 rfl)));exact ax (s.ev rfl) pe (j.did hok rfl (GS.Le.refl _) j.holds j.hr rfl)))
  ·exact ay rfl (fun D a w G H hR j=>by(have hH:=j.hr;subst H;have s:=(j.sf.know _ _ (j.gotE 5 rfl (hR.was rfl 5 rfl)));exact aO (s.ev rfl) Cu ((j.holds.rowI 0 0 (cs:=[.int .u16 d.client.life]) (o:=1) rfl rfl rfl) 0 _ rfl) (j.did hok rfl (GS.Le.refl _) j.holds j.hr rfl)))
  ·exact ay rfl (fun D a w G H hR j=>by(have s:=(j.sf.know _ _ (j.gotE 6 rfl (hR.was rfl 6 rfl)));exact bx (s.ev rfl) vB cy (aU (by omega) (by omega)) (j.did hok rfl (GS.Le.refl _) j.holds j.hr rfl)))
  ·exact ay rfl (fun D a w G H hR j=>by(have s:=((j.sf.know _ _ (j.gotE 3 rfl (hR.was rfl 3 rfl))).know _ _ (j.gotE 7 rfl (hR.was rfl 7 rfl)));exact jl s rfl wN (fZ d.client.node d.client.life (by omega) (by omega) (ht.mono j.le) j.holds) (fun e w' ⟨v,G',he,hG,hh,hv⟩=>⟨v,he,j.did hok rfl hG hh j.hr hv⟩)))
  ·exact ay rfl (fun D a w G H hR j=>by(have s:=j.sf;exact ax (s.ev rfl) pd (j.did hok rfl (GS.Le.refl _) j.holds j.hr rfl)))
  ·exact ay rfl (fun D a w G H hR j=>by(have hH:=j.hr;subst H;have s:=(j.sf.know _ _ (j.gotE 9 rfl (hR.was rfl 9 rfl)));exact aO (s.ev rfl) Ct ((j.holds.rowI 0 0 (cs:=[.int .u32 d.seq]) (o:=2) rfl rfl rfl) 0 _ rfl) (j.did hok rfl (GS.Le.refl _) j.holds j.hr rfl)))
  ·exact ay rfl (fun D a w G H hR j=>by(have s:=(j.sf.know _ _ (j.gotE 10 rfl (hR.was rfl 10 rfl)));exact bx (s.ev rfl) vA cy (aU (by omega) (by omega)) (j.did hok rfl (GS.Le.refl _) j.holds j.hr rfl)))
  have s9:=((j.sf.know _ _ (j.gotE 8 rfl (hall 8 (by decide)))).know _ _ (j.gotE 11 rfl (hall 11 (by decide))))
  have hH:=j.hr
  subst H
  have hle15:=j.le
  have ht:=ht.mono hle15
  have hG13:=(GS.Le.refl _).trans hle15
  have h14:Holds _ _ ([(b1,.cells (dV d) 75 (0,0))]::F):=j.holds
  clear j hall hok
  refine db s9 rfl sT rfl (fH d.seq (by omega) ht h14) (fun a16 w18 v23 G20 hs24 h19 hv22 s17=> ?_)
  subst hv22
  have ht:=ht.mono hs24
  have hG21:=hG13.trans hs24
  have hL_203868:=Lib.itoa_length_le d.seq (by omega) (by omega)
  refine dK s17 rfl h19 (vs:=[(0,S (aE d.client.node d.client.life)),(1,S (Lib.itoa d.seq))]) (cl:=[S (aE d.client.node d.client.life),S (Lib.itoa d.seq)]) (E:=9) rfl (fun w=>by kernel_rfl) (fun a26 w28 b25 s27 h29=> ?_)
  have h29:Holds _ _ ([(b25,.cells #[S (aE d.client.node d.client.life),S (Lib.itoa d.seq)] 9 (0,0))]::[(b1,.cells (dV d) 75 (0,0))]::F):=h29
  refine ae s27 rfl (fun _ k=>aZ (s27.ev rfl) k) (fun a30 s31=> ?_)
  refine wpList_nil ?_
  refine aj ?_
  refine wp_seq ?_
  refine wp_seq ?_
  refine wp_region_lit ?_
  refine ae s31 rfl (fun _ k=>ax (s31.ev rfl) pb k) (fun a32 s33=> ?_)
  refine ae s33 rfl (fun _ k=>ax (s33.ev rfl) pc k) (fun a34 s35=> ?_)
  refine ae s35 rfl (fun _ k=>aO (s35.ev rfl) fi ((h29.rowI 1 0 (cs:=[.int .u8 d.depth]) (o:=3) rfl rfl rfl) 0 _ rfl) k) (fun a36 s37=> ?_)
  refine ae s37 rfl (fun _ k=>bx (s37.ev rfl) du cy (aU (by omega) (by omega)) k) (fun a38 s39=> ?_)
  refine ae s39 rfl (fun _ k=>ss (s39.ev rfl) (s39.ev rfl) (z:=0) (by omega) k) (fun a40 s41=> ?_)
  refine ae s41 rfl (fun _ k=>mj (s41.ev rfl) (s41.ev rfl) vz (m:=0) di rfl (by decide) k) (fun a42 s43=> ?_)
  refine ae s43 rfl (fun _ k=>rJ (s43.ev rfl) eU k) (fun a44 s45=> ?_)
  refine ae s45 rfl (fun _ k=>bd (s45.ev rfl) k) (fun a46 s47=> ?_)
  refine wpList_nil ?_
  refine aj ?_
  refine wp_block ?_
  refine wp_loop_rounds 4 ?_
  refine cv (n:=3) ?_
  refine wp_seq ?_
  refine wp_region_lit ?_
  refine ae s47 rfl (fun _ k=>fm (s47.ev rfl) (s47.ev rfl) k) (fun a48 s49=> ?_)
  refine wpList_nil ?_
  refine aj ?_
  refine wp_seq ?_
  refine rD s49 rfl rfl ?_
  refine wp_exit ?_
  refine eA ?_
  refine eA ?_
  refine oV ?_
  refine aj ?_
  refine wp_seq ?_
  refine wp_region_lit ?_
  refine ae s49 rfl (fun _ k=>bd (s49.ev rfl) k) (fun a51 s52=> ?_)
  obtain⟨G53,hs54,h55,hr56⟩:=Row.toG (enc:=MU) (l:=[aE d.client.node d.client.life,Lib.itoa d.seq]) (fun _=>rfl) (Row.lit (E:=9) (size:=1) (n:=2) (b:=b25) (xs:=[S (aE d.client.node d.client.life),S (Lib.itoa d.seq)]) rfl (by decide)) (by first|rfl|(simp only[acT];omega)) h29
  have ht:=ht.mono hs54
  have hG57:=hG21.trans hs54
  refine db s52 rfl Qz rfl (wk (some ⟨b25,0,none⟩) 2 [aE d.client.node d.client.life,Lib.itoa d.seq] [47] hr56 (by first|exact hl|(refine Nat.le_trans (qT _ _) ?_;simp only[acR,acJ,acO,List.sum_append,List.sum_cons,List.sum_nil,acC,acD,acF];omega)) (by first|exact hn|(simp only[acC,acD,acF];omega)) h55) (fun a58 w60 v65 G62 hs66 h61 hv64 s59=> ?_)
  subst hv64
  have ht:=ht.mono hs66
  have hr56:=hr56.mono hs66
  have hG63:=hG57.trans hs66
  refine ae s59 rfl (fun _ k=>aZ (s59.ev rfl) k) (fun a67 s68=> ?_)
  refine wpList_nil ?_
  refine aj ?_
  refine wp_ret ?_
  refine lG s68 rfl rfl ⟨_,_,rfl,hG63,h61.drop,?_⟩
  first|(unfold ah;rw[ol d (by omega)];rfl)|(unfold ah;rw[oi d (by omega) (by omega)];rfl)|(unfold ah;rw[oh d (by omega) (by omega)];rfl)|(unfold ah;rw[og d (by omega)];rfl)
 ·
  refine wp_seq ?_
  refine wp_region_lit ?_
  refine vK s0 rfl rfl h (fun a70 w72 b69 s71 h73=> ?_)
  have h73:Holds _ _ ([(b69,.cells (dV d) 75 (0,0))]::F):=h73
  refine ae s71 rfl (fun _ k=>aZ (s71.ev rfl) k) (fun a74 s75=> ?_)
  refine wpList_nil ?_
  refine aj ?_
  refine wp_seq ?_
  have hok:vP 44 [(1,.pointer (some ⟨b69,0,none⟩)),(2,S [])] [(some 6,Fact.eq (.pointer (some ⟨b69,0,none⟩))),(some 7,Fact.eq (.pointer (some ⟨b69,0,none⟩))),(some 8,Fact.eq (.int .u8 d.client.node)),(some 9,Fact.eq (.int .i64 d.client.node)),(some 10,Fact.eq (.pointer (some ⟨b69,0,none⟩))),(some 11,Fact.eq (.pointer (some ⟨b69,1,none⟩))),(some 12,Fact.eq (.int .u16 d.client.life)),(some 13,Fact.eq (.int .i64 d.client.life)),(some 14,Fact.eq (S (aE d.client.node d.client.life))),(some 15,Fact.eq (.pointer (some ⟨b69,2,none⟩))),(some 16,Fact.eq (.int .u32 d.seq)),(some 17,Fact.eq (.int .i64 d.seq))] []=true:=rfl
  refine pH 12 [1,2,3,8,5,6,7,8,12,10,11,12,13,14] (N:=44) (L0:=[(1,.pointer (some ⟨b69,0,none⟩)),(2,S [])]) (X:=[(some 6,Fact.eq (.pointer (some ⟨b69,0,none⟩))),(some 7,Fact.eq (.pointer (some ⟨b69,0,none⟩))),(some 8,Fact.eq (.int .u8 d.client.node)),(some 9,Fact.eq (.int .i64 d.client.node)),(some 10,Fact.eq (.pointer (some ⟨b69,0,none⟩))),(some 11,Fact.eq (.pointer (some ⟨b69,1,none⟩))),(some 12,Fact.eq (.int .u16 d.client.life)),(some 13,Fact.eq (.int .i64 d.client.life)),(some 14,Fact.eq (S (aE d.client.node d.client.life))),(some 15,Fact.eq (.pointer (some ⟨b69,2,none⟩))),(some 16,Fact.eq (.int .u32 d.seq)),(some 17,Fact.eq (.int .i64 d.seq))]) (O:=[]) (HR:=fun D a _ H=>H=([(b69,.cells (dV d) 75 (0,0))]::F)) mixed rfl rfl rfl h73 rfl (s75.sub (all_cons rfl (all_cons rfl (lA)))) (fun i k t v hi=>by simp at hi) ⟨?_,?_,?_,?_,?_,?_,?_,?_,?_,?_,?_,?_,trivial⟩ (fun D a w G H hall j=> ?_)
  ·exact ay rfl (fun D a w G H hR j=>by(have s:=j.sf;exact ax (s.ev rfl) fx (j.did hok rfl (GS.Le.refl _) j.holds j.hr rfl)))
  ·exact ay rfl (fun D a w G H hR j=>by(have s:=(j.sf.know _ _ (j.gotE 0 rfl (hR.was rfl 0 rfl)));exact ax (s.ev rfl) pf (j.did hok rfl (GS.Le.refl _) j.holds j.hr rfl)))
  ·exact ay rfl (fun D a w G H hR j=>by(have hH:=j.hr;subst H;have s:=(j.sf.know _ _ (j.gotE 1 rfl (hR.was rfl 1 rfl)));exact aO (s.ev rfl) fi ((j.holds.rowI 0 0 (cs:=[.int .u8 d.client.node]) (o:=0) rfl rfl rfl) 0 _ rfl) (j.did hok rfl (GS.Le.refl _) j.holds j.hr rfl)))
  ·exact ay rfl (fun D a w G H hR j=>by(have s:=(j.sf.know _ _ (j.gotE 2 rfl (hR.was rfl 2 rfl)));exact bx (s.ev rfl) du cy (aU (by omega) (by omega)) (j.did hok rfl (GS.Le.refl _) j.holds j.hr rfl)))
  ·exact ay rfl (fun D a w G H hR j=>by(have s:=j.sf;exact ax (s.ev rfl) fx (j.did hok rfl (GS.Le.refl _) j.holds j.hr rfl)))
  ·exact ay rfl (fun D a w G H hR j=>by(have s:=(j.sf.know _ _ (j.gotE 4 rfl (hR.was rfl 4 rfl)));exact ax (s.ev rfl) pe (j.did hok rfl (GS.Le.refl _) j.holds j.hr rfl)))
  ·exact ay rfl (fun D a w G H hR j=>by(have hH:=j.hr;subst H;have s:=(j.sf.know _ _ (j.gotE 5 rfl (hR.was rfl 5 rfl)));exact aO (s.ev rfl) Cu ((j.holds.rowI 0 0 (cs:=[.int .u16 d.client.life]) (o:=1) rfl rfl rfl) 0 _ rfl) (j.did hok rfl (GS.Le.refl _) j.holds j.hr rfl)))
  ·exact ay rfl (fun D a w G H hR j=>by(have s:=(j.sf.know _ _ (j.gotE 6 rfl (hR.was rfl 6 rfl)));exact bx (s.ev rfl) vB cy (aU (by omega) (by omega)) (j.did hok rfl (GS.Le.refl _) j.holds j.hr rfl)))
  ·exact ay rfl (fun D a w G H hR j=>by(have s:=((j.sf.know _ _ (j.gotE 3 rfl (hR.was rfl 3 rfl))).know _ _ (j.gotE 7 rfl (hR.was rfl 7 rfl)));exact jl s rfl wN (fZ d.client.node d.client.life (by omega) (by omega) (ht.mono j.le) j.holds) (fun e w' ⟨v,G',he,hG,hh,hv⟩=>⟨v,he,j.did hok rfl hG hh j.hr hv⟩)))
  ·exact ay rfl (fun D a w G H hR j=>by(have s:=j.sf;exact ax (s.ev rfl) pd (j.did hok rfl (GS.Le.refl _) j.holds j.hr rfl)))
  ·exact ay rfl (fun D a w G H hR j=>by(have hH:=j.hr;subst H;have s:=(j.sf.know _ _ (j.gotE 9 rfl (hR.was rfl 9 rfl)));exact aO (s.ev rfl) Ct ((j.holds.rowI 0 0 (cs:=[.int .u32 d.seq]) (o:=2) rfl rfl rfl) 0 _ rfl) (j.did hok rfl (GS.Le.refl _) j.holds j.hr rfl)))
  ·exact ay rfl (fun D a w G H hR j=>by(have s:=(j.sf.know _ _ (j.gotE 10 rfl (hR.was rfl 10 rfl)));exact bx (s.ev rfl) vA cy (aU (by omega) (by omega)) (j.did hok rfl (GS.Le.refl _) j.holds j.hr rfl)))
  have s77:=((j.sf.know _ _ (j.gotE 8 rfl (hall 8 (by decide)))).know _ _ (j.gotE 11 rfl (hall 11 (by decide))))
  have hH:=j.hr
  subst H
  have hle83:=j.le
  have ht:=ht.mono hle83
  have hG81:=(GS.Le.refl _).trans hle83
  have h82:Holds _ _ ([(b69,.cells (dV d) 75 (0,0))]::F):=j.holds
  clear j hall hok
  refine db s77 rfl sT rfl (fH d.seq (by omega) ht h82) (fun a84 w86 v91 G88 hs92 h87 hv90 s85=> ?_)
  subst hv90
  have ht:=ht.mono hs92
  have hG89:=hG81.trans hs92
  have hL_203868:=Lib.itoa_length_le d.seq (by omega) (by omega)
  refine dK s85 rfl h87 (vs:=[(0,S (aE d.client.node d.client.life)),(1,S (Lib.itoa d.seq))]) (cl:=[S (aE d.client.node d.client.life),S (Lib.itoa d.seq)]) (E:=9) rfl (fun w=>by kernel_rfl) (fun a94 w96 b93 s95 h97=> ?_)
  have h97:Holds _ _ ([(b93,.cells #[S (aE d.client.node d.client.life),S (Lib.itoa d.seq)] 9 (0,0))]::[(b69,.cells (dV d) 75 (0,0))]::F):=h97
  refine ae s95 rfl (fun _ k=>aZ (s95.ev rfl) k) (fun a98 s99=> ?_)
  refine wpList_nil ?_
  refine aj ?_
  refine wp_seq ?_
  refine wp_seq ?_
  refine wp_region_lit ?_
  refine ae s99 rfl (fun _ k=>ax (s99.ev rfl) pb k) (fun a100 s101=> ?_)
  refine ae s101 rfl (fun _ k=>ax (s101.ev rfl) pc k) (fun a102 s103=> ?_)
  refine ae s103 rfl (fun _ k=>aO (s103.ev rfl) fi ((h97.rowI 1 0 (cs:=[.int .u8 d.depth]) (o:=3) rfl rfl rfl) 0 _ rfl) k) (fun a104 s105=> ?_)
  refine ae s105 rfl (fun _ k=>bx (s105.ev rfl) du cy (aU (by omega) (by omega)) k) (fun a106 s107=> ?_)
  refine ae s107 rfl (fun _ k=>ss (s107.ev rfl) (s107.ev rfl) (z:=1) (by omega) k) (fun a108 s109=> ?_)
  refine ae s109 rfl (fun _ k=>mj (s109.ev rfl) (s109.ev rfl) vz (m:=1) di rfl (by decide) k) (fun a110 s111=> ?_)
  refine ae s111 rfl (fun _ k=>rJ (s111.ev rfl) eU k) (fun a112 s113=> ?_)
  refine ae s113 rfl (fun _ k=>bd (s113.ev rfl) k) (fun a114 s115=> ?_)
  refine wpList_nil ?_
  refine aj ?_
  refine wp_block ?_
  refine wp_loop_rounds 4 ?_
  refine cv (n:=3) ?_
  refine wp_seq ?_
  refine wp_region_lit ?_
  refine ae s115 rfl (fun _ k=>fm (s115.ev rfl) (s115.ev rfl) k) (fun a116 s117=> ?_)
  refine wpList_nil ?_
  refine aj ?_
  refine wp_seq ?_
  refine nc s117 rfl rfl ?_
  refine wp_skip ?_
  refine aj ?_
  refine wp_seq ?_
  refine wp_block ?_
  refine wp_seq ?_
  refine wp_region_lit ?_
  refine ae s117 rfl (fun _ k=>iX (s117.ev rfl) (s117.ev rfl) eU di (i:=0) rfl (by decide) rfl rfl (m:=4) rfl k) (fun a119 s120=> ?_)
  refine ae s120 rfl (fun _ k=>fE (s120.ev rfl) tc di (cs:=[.int .u8 d.p0.group,.int .u8 d.p0.index]) rfl (h97.rowI 1 0 (cs:=[.int .u8 d.p0.group,.int .u8 d.p0.index]) (o:=4) rfl rfl rfl) k) (fun a121 s122=> ?_)
  refine iU s122 rfl h97 lc (fun a124 w126 b123 s125 h127=> ?_)
  refine fO s125 rfl rfl di rfl h127 (j:=0) rfl rfl rfl (cl:=[.int .u8 d.p0.group,.int .u8 d.p0.index]) (by kernel_rfl) (fun a128 w130 s129 h131=> ?_)
  have h131:Holds _ _ ([(b123,.cells #[.int .u8 d.p0.group,.int .u8 d.p0.index] 72 (0,0))]::[(b93,.cells #[S (aE d.client.node d.client.life),S (Lib.itoa d.seq)] 9 (0,0))]::[(b69,.cells (dV d) 75 (0,0))]::F):=h131
  refine wpList_nil ?_
  refine aj ?_
  refine wp_region_lit ?_
  refine ae s129 rfl (fun _ k=>bd (s129.ev rfl) k) (fun a132 s133=> ?_)
  refine ae s133 rfl (fun _ k=>ax (s133.ev rfl) iW k) (fun a134 s135=> ?_)
  refine ae s135 rfl (fun _ k=>aO (s135.ev rfl) fi ((h131.rowI 0 0 (cs:=[.int .u8 d.p0.group]) (o:=0) rfl rfl rfl) 0 _ rfl) k) (fun a136 s137=> ?_)
  refine ae s137 rfl (fun _ k=>bx (s137.ev rfl) du cy (aU (by omega) (by omega)) k) (fun a138 s139=> ?_)
  refine ae s139 rfl (fun _ k=>ax (s139.ev rfl) iV k) (fun a140 s141=> ?_)
  refine ae s141 rfl (fun _ k=>aO (s141.ev rfl) fi ((h131.rowI 0 0 (cs:=[.int .u8 d.p0.index]) (o:=1) rfl rfl rfl) 0 _ rfl) k) (fun a142 s143=> ?_)
  refine ae s143 rfl (fun _ k=>bx (s143.ev rfl) du cy (aU (by omega) (by omega)) k) (fun a144 s145=> ?_)
  refine db s145 rfl wN rfl (fZ d.p0.group d.p0.index (by omega) (by omega) ht h131) (fun a146 w148 v153 G150 hs154 h149 hv152 s147=> ?_)
  subst hv152
  have ht:=ht.mono hs154
  have hG151:=hG89.trans hs154
  have hL_738460:=cq d.p0.group d.p0.index (by omega) (by omega)
  refine dK s147 rfl h149 (vs:=[(0,S (aE d.p0.group d.p0.index))]) (cl:=[S (aE d.p0.group d.p0.index)]) (E:=9) rfl (fun w=>by kernel_rfl) (fun a156 w158 b155 s157 h159=> ?_)
  have h159:Holds _ _ ([(b155,.cells #[S (aE d.p0.group d.p0.index)] 9 (0,0))]::[(b123,.cells #[.int .u8 d.p0.group,.int .u8 d.p0.index] 72 (0,0))]::[(b93,.cells #[S (aE d.client.node d.client.life),S (Lib.itoa d.seq)] 9 (0,0))]::[(b69,.cells (dV d) 75 (0,0))]::F):=h159
  have h160:Holds _ _ ([(b93,.cells #[S (aE d.client.node d.client.life),S (Lib.itoa d.seq)] 9 (0,0))]::[(b155,.cells #[S (aE d.p0.group d.p0.index)] 9 (0,0))]::[(b123,.cells #[.int .u8 d.p0.group,.int .u8 d.p0.index] 72 (0,0))]::[(b69,.cells (dV d) 75 (0,0))]::F):=h159.front 2 rfl
  refine ox s157 rfl (Row.lit (E:=9) (size:=1) (n:=2) (b:=b93) (xs:=[S (aE d.client.node d.client.life),S (Lib.itoa d.seq)]) rfl (by decide)) h160 rfl rfl xy Dr (news:=[S (aE d.p0.group d.p0.index)]) rfl (h160.rowI 1 0 (o:=0) rfl rfl rfl) rfl (by omega) (by omega) (fun a161 w163 ao165 cap166 c167 s162 r168 h164=> ?_)
  have h169:Holds _ _ ([(b155,.cells #[S (aE d.p0.group d.p0.index)] 9 (0,0))]::c167::[(b123,.cells #[.int .u8 d.p0.group,.int .u8 d.p0.index] 72 (0,0))]::[(b69,.cells (dV d) 75 (0,0))]::F):=h164.front 1 rfl
  have h170:Holds _ _ (c167::[(b123,.cells #[.int .u8 d.p0.group,.int .u8 d.p0.index] 72 (0,0))]::[(b69,.cells (dV d) 75 (0,0))]::F):=h169.drop
  refine ae s162 rfl (fun _ k=>aZ (s162.ev rfl) k) (fun a171 s172=> ?_)
  refine wpList_nil ?_
  refine iS ?_
  refine aj ?_
  refine wp_region_lit ?_
  refine ae s172 rfl (fun _ k=>nh (s172.ev rfl) (s172.ev rfl) (z:=1) rfl k) (fun a173 s174=> ?_)
  refine ae s174 rfl (fun _ k=>bd (s174.ev rfl) k) (fun a175 s176=> ?_)
  refine wpList_nil ?_
  refine aj ?_
  refine cv (n:=2) ?_
  refine wp_seq ?_
  refine wp_region_lit ?_
  refine ae s176 rfl (fun _ k=>fm (s176.ev rfl) (s176.ev rfl) k) (fun a177 s178=> ?_)
  refine wpList_nil ?_
  refine aj ?_
  refine wp_seq ?_
  refine rD s178 rfl rfl ?_
  refine wp_exit ?_
  refine eA ?_
  refine eA ?_
  refine oV ?_
  refine aj ?_
  refine wp_seq ?_
  refine wp_region_lit ?_
  refine ae s178 rfl (fun _ k=>bd (s178.ev rfl) k) (fun a180 s181=> ?_)
  obtain⟨G182,hs183,h184,hr185⟩:=Row.toG (enc:=MU) (l:=[aE d.client.node d.client.life,Lib.itoa d.seq,aE d.p0.group d.p0.index]) (fun _=>rfl) r168 (by first|rfl|(simp only[acT];omega)) h170
  have ht:=ht.mono hs183
  have hG186:=hG151.trans hs183
  refine db s181 rfl Qz rfl (wk ao165 cap166 [aE d.client.node d.client.life,Lib.itoa d.seq,aE d.p0.group d.p0.index] [47] hr185 (by first|exact hl|(refine Nat.le_trans (qT _ _) ?_;simp only[acR,acJ,acO,List.sum_append,List.sum_cons,List.sum_nil,acC,acD,acF];omega)) (by first|exact hn|(simp only[acC,acD,acF];omega)) h184) (fun a187 w189 v194 G191 hs195 h190 hv193 s188=> ?_)
  subst hv193
  have ht:=ht.mono hs195
  have hr185:=hr185.mono hs195
  have hG192:=hG186.trans hs195
  refine ae s188 rfl (fun _ k=>aZ (s188.ev rfl) k) (fun a196 s197=> ?_)
  refine wpList_nil ?_
  refine aj ?_
  refine wp_ret ?_
  refine lG s197 rfl rfl ⟨_,_,rfl,hG192,h190.drop.drop,?_⟩
  first|(unfold ah;rw[ol d (by omega)];rfl)|(unfold ah;rw[oi d (by omega) (by omega)];rfl)|(unfold ah;rw[oh d (by omega) (by omega)];rfl)|(unfold ah;rw[og d (by omega)];rfl)
 ·
  refine wp_seq ?_
  refine wp_region_lit ?_
  refine vK s0 rfl rfl h (fun a199 w201 b198 s200 h202=> ?_)
  have h202:Holds _ _ ([(b198,.cells (dV d) 75 (0,0))]::F):=h202
  refine ae s200 rfl (fun _ k=>aZ (s200.ev rfl) k) (fun a203 s204=> ?_)
  refine wpList_nil ?_
  refine aj ?_
  refine wp_seq ?_
  have hok:vP 44 [(1,.pointer (some ⟨b198,0,none⟩)),(2,S [])] [(some 6,Fact.eq (.pointer (some ⟨b198,0,none⟩))),(some 7,Fact.eq (.pointer (some ⟨b198,0,none⟩))),(some 8,Fact.eq (.int .u8 d.client.node)),(some 9,Fact.eq (.int .i64 d.client.node)),(some 10,Fact.eq (.pointer (some ⟨b198,0,none⟩))),(some 11,Fact.eq (.pointer (some ⟨b198,1,none⟩))),(some 12,Fact.eq (.int .u16 d.client.life)),(some 13,Fact.eq (.int .i64 d.client.life)),(some 14,Fact.eq (S (aE d.client.node d.client.life))),(some 15,Fact.eq (.pointer (some ⟨b198,2,none⟩))),(some 16,Fact.eq (.int .u32 d.seq)),(some 17,Fact.eq (.int .i64 d.seq))] []=true:=rfl
  refine pH 12 [1,2,3,8,5,6,7,8,12,10,11,12,13,14] (N:=44) (L0:=[(1,.pointer (some ⟨b198,0,none⟩)),(2,S [])]) (X:=[(some 6,Fact.eq (.pointer (some ⟨b198,0,none⟩))),(some 7,Fact.eq (.pointer (some ⟨b198,0,none⟩))),(some 8,Fact.eq (.int .u8 d.client.node)),(some 9,Fact.eq (.int .i64 d.client.node)),(some 10,Fact.eq (.pointer (some ⟨b198,0,none⟩))),(some 11,Fact.eq (.pointer (some ⟨b198,1,none⟩))),(some 12,Fact.eq (.int .u16 d.client.life)),(some 13,Fact.eq (.int .i64 d.client.life)),(some 14,Fact.eq (S (aE d.client.node d.client.life))),(some 15,Fact.eq (.pointer (some ⟨b198,2,none⟩))),(some 16,Fact.eq (.int .u32 d.seq)),(some 17,Fact.eq (.int .i64 d.seq))]) (O:=[]) (HR:=fun D a _ H=>H=([(b198,.cells (dV d) 75 (0,0))]::F)) mixed rfl rfl rfl h202 rfl (s204.sub (all_cons rfl (all_cons rfl (lA)))) (fun i k t v hi=>by simp at hi) ⟨?_,?_,?_,?_,?_,?_,?_,?_,?_,?_,?_,?_,trivial⟩ (fun D a w G H hall j=> ?_)
  ·exact ay rfl (fun D a w G H hR j=>by(have s:=j.sf;exact ax (s.ev rfl) fx (j.did hok rfl (GS.Le.refl _) j.holds j.hr rfl)))
  ·exact ay rfl (fun D a w G H hR j=>by(have s:=(j.sf.know _ _ (j.gotE 0 rfl (hR.was rfl 0 rfl)));exact ax (s.ev rfl) pf (j.did hok rfl (GS.Le.refl _) j.holds j.hr rfl)))
  ·exact ay rfl (fun D a w G H hR j=>by(have hH:=j.hr;subst H;have s:=(j.sf.know _ _ (j.gotE 1 rfl (hR.was rfl 1 rfl)));exact aO (s.ev rfl) fi ((j.holds.rowI 0 0 (cs:=[.int .u8 d.client.node]) (o:=0) rfl rfl rfl) 0 _ rfl) (j.did hok rfl (GS.Le.refl _) j.holds j.hr rfl)))
  ·exact ay rfl (fun D a w G H hR j=>by(have s:=(j.sf.know _ _ (j.gotE 2 rfl (hR.was rfl 2 rfl)));exact bx (s.ev rfl) du cy (aU (by omega) (by omega)) (j.did hok rfl (GS.Le.refl _) j.holds j.hr rfl)))
  ·exact ay rfl (fun D a w G H hR j=>by(have s:=j.sf;exact ax (s.ev rfl) fx (j.did hok rfl (GS.Le.refl _) j.holds j.hr rfl)))
  ·exact ay rfl (fun D a w G H hR j=>by(have s:=(j.sf.know _ _ (j.gotE 4 rfl (hR.was rfl 4 rfl)));exact ax (s.ev rfl) pe (j.did hok rfl (GS.Le.refl _) j.holds j.hr rfl)))
  ·exact ay rfl (fun D a w G H hR j=>by(have hH:=j.hr;subst H;have s:=(j.sf.know _ _ (j.gotE 5 rfl (hR.was rfl 5 rfl)));exact aO (s.ev rfl) Cu ((j.holds.rowI 0 0 (cs:=[.int .u16 d.client.life]) (o:=1) rfl rfl rfl) 0 _ rfl) (j.did hok rfl (GS.Le.refl _) j.holds j.hr rfl)))
  ·exact ay rfl (fun D a w G H hR j=>by(have s:=(j.sf.know _ _ (j.gotE 6 rfl (hR.was rfl 6 rfl)));exact bx (s.ev rfl) vB cy (aU (by omega) (by omega)) (j.did hok rfl (GS.Le.refl _) j.holds j.hr rfl)))
  ·exact ay rfl (fun D a w G H hR j=>by(have s:=((j.sf.know _ _ (j.gotE 3 rfl (hR.was rfl 3 rfl))).know _ _ (j.gotE 7 rfl (hR.was rfl 7 rfl)));exact jl s rfl wN (fZ d.client.node d.client.life (by omega) (by omega) (ht.mono j.le) j.holds) (fun e w' ⟨v,G',he,hG,hh,hv⟩=>⟨v,he,j.did hok rfl hG hh j.hr hv⟩)))
  ·exact ay rfl (fun D a w G H hR j=>by(have s:=j.sf;exact ax (s.ev rfl) pd (j.did hok rfl (GS.Le.refl _) j.holds j.hr rfl)))
  ·exact ay rfl (fun D a w G H hR j=>by(have hH:=j.hr;subst H;have s:=(j.sf.know _ _ (j.gotE 9 rfl (hR.was rfl 9 rfl)));exact aO (s.ev rfl) Ct ((j.holds.rowI 0 0 (cs:=[.int .u32 d.seq]) (o:=2) rfl rfl rfl) 0 _ rfl) (j.did hok rfl (GS.Le.refl _) j.holds j.hr rfl)))
  ·exact ay rfl (fun D a w G H hR j=>by(have s:=(j.sf.know _ _ (j.gotE 10 rfl (hR.was rfl 10 rfl)));exact bx (s.ev rfl) vA cy (aU (by omega) (by omega)) (j.did hok rfl (GS.Le.refl _) j.holds j.hr rfl)))
  have s206:=((j.sf.know _ _ (j.gotE 8 rfl (hall 8 (by decide)))).know _ _ (j.gotE 11 rfl (hall 11 (by decide))))
  have hH:=j.hr
  subst H
  have hle212:=j.le
  have ht:=ht.mono hle212
  have hG210:=(GS.Le.refl _).trans hle212
  have h211:Holds _ _ ([(b198,.cells (dV d) 75 (0,0))]::F):=j.holds
  clear j hall hok
  refine db s206 rfl sT rfl (fH d.seq (by omega) ht h211) (fun a213 w215 v220 G217 hs221 h216 hv219 s214=> ?_)
  subst hv219
  have ht:=ht.mono hs221
  have hG218:=hG210.trans hs221
  have hL_203868:=Lib.itoa_length_le d.seq (by omega) (by omega)
  refine dK s214 rfl h216 (vs:=[(0,S (aE d.client.node d.client.life)),(1,S (Lib.itoa d.seq))]) (cl:=[S (aE d.client.node d.client.life),S (Lib.itoa d.seq)]) (E:=9) rfl (fun w=>by kernel_rfl) (fun a223 w225 b222 s224 h226=> ?_)
  have h226:Holds _ _ ([(b222,.cells #[S (aE d.client.node d.client.life),S (Lib.itoa d.seq)] 9 (0,0))]::[(b198,.cells (dV d) 75 (0,0))]::F):=h226
  refine ae s224 rfl (fun _ k=>aZ (s224.ev rfl) k) (fun a227 s228=> ?_)
  refine wpList_nil ?_
  refine aj ?_
  refine wp_seq ?_
  refine wp_seq ?_
  refine wp_region_lit ?_
  refine ae s228 rfl (fun _ k=>ax (s228.ev rfl) pb k) (fun a229 s230=> ?_)
  refine ae s230 rfl (fun _ k=>ax (s230.ev rfl) pc k) (fun a231 s232=> ?_)
  refine ae s232 rfl (fun _ k=>aO (s232.ev rfl) fi ((h226.rowI 1 0 (cs:=[.int .u8 d.depth]) (o:=3) rfl rfl rfl) 0 _ rfl) k) (fun a233 s234=> ?_)
  refine ae s234 rfl (fun _ k=>bx (s234.ev rfl) du cy (aU (by omega) (by omega)) k) (fun a235 s236=> ?_)
  refine ae s236 rfl (fun _ k=>ss (s236.ev rfl) (s236.ev rfl) (z:=2) (by omega) k) (fun a237 s238=> ?_)
  refine ae s238 rfl (fun _ k=>mj (s238.ev rfl) (s238.ev rfl) vz (m:=2) di rfl (by decide) k) (fun a239 s240=> ?_)
  refine ae s240 rfl (fun _ k=>rJ (s240.ev rfl) eU k) (fun a241 s242=> ?_)
  refine ae s242 rfl (fun _ k=>bd (s242.ev rfl) k) (fun a243 s244=> ?_)
  refine wpList_nil ?_
  refine aj ?_
  refine wp_block ?_
  refine wp_loop_rounds 4 ?_
  refine cv (n:=3) ?_
  refine wp_seq ?_
  refine wp_region_lit ?_
  refine ae s244 rfl (fun _ k=>fm (s244.ev rfl) (s244.ev rfl) k) (fun a245 s246=> ?_)
  refine wpList_nil ?_
  refine aj ?_
  refine wp_seq ?_
  refine nc s246 rfl rfl ?_
  refine wp_skip ?_
  refine aj ?_
  refine wp_seq ?_
  refine wp_block ?_
  refine wp_seq ?_
  refine wp_region_lit ?_
  refine ae s246 rfl (fun _ k=>iX (s246.ev rfl) (s246.ev rfl) eU di (i:=0) rfl (by decide) rfl rfl (m:=4) rfl k) (fun a248 s249=> ?_)
  refine ae s249 rfl (fun _ k=>fE (s249.ev rfl) tc di (cs:=[.int .u8 d.p0.group,.int .u8 d.p0.index]) rfl (h226.rowI 1 0 (cs:=[.int .u8 d.p0.group,.int .u8 d.p0.index]) (o:=4) rfl rfl rfl) k) (fun a250 s251=> ?_)
  refine iU s251 rfl h226 lc (fun a253 w255 b252 s254 h256=> ?_)
  refine fO s254 rfl rfl di rfl h256 (j:=0) rfl rfl rfl (cl:=[.int .u8 d.p0.group,.int .u8 d.p0.index]) (by kernel_rfl) (fun a257 w259 s258 h260=> ?_)
  have h260:Holds _ _ ([(b252,.cells #[.int .u8 d.p0.group,.int .u8 d.p0.index] 72 (0,0))]::[(b222,.cells #[S (aE d.client.node d.client.life),S (Lib.itoa d.seq)] 9 (0,0))]::[(b198,.cells (dV d) 75 (0,0))]::F):=h260
  refine wpList_nil ?_
  refine aj ?_
  refine wp_region_lit ?_
  refine ae s258 rfl (fun _ k=>bd (s258.ev rfl) k) (fun a261 s262=> ?_)
  refine ae s262 rfl (fun _ k=>ax (s262.ev rfl) iW k) (fun a263 s264=> ?_)
  refine ae s264 rfl (fun _ k=>aO (s264.ev rfl) fi ((h260.rowI 0 0 (cs:=[.int .u8 d.p0.group]) (o:=0) rfl rfl rfl) 0 _ rfl) k) (fun a265 s266=> ?_)
  refine ae s266 rfl (fun _ k=>bx (s266.ev rfl) du cy (aU (by omega) (by omega)) k) (fun a267 s268=> ?_)
  refine ae s268 rfl (fun _ k=>ax (s268.ev rfl) iV k) (fun a269 s270=> ?_)
  refine ae s270 rfl (fun _ k=>aO (s270.ev rfl) fi ((h260.rowI 0 0 (cs:=[.int .u8 d.p0.index]) (o:=1) rfl rfl rfl) 0 _ rfl) k) (fun a271 s272=> ?_)
  refine ae s272 rfl (fun _ k=>bx (s272.ev rfl) du cy (aU (by omega) (by omega)) k) (fun a273 s274=> ?_)
  refine db s274 rfl wN rfl (fZ d.p0.group d.p0.index (by omega) (by omega) ht h260) (fun a275 w277 v282 G279 hs283 h278 hv281 s276=> ?_)
  subst hv281
  have ht:=ht.mono hs283
  have hG280:=hG218.trans hs283
  have hL_738460:=cq d.p0.group d.p0.index (by omega) (by omega)
  refine dK s276 rfl h278 (vs:=[(0,S (aE d.p0.group d.p0.index))]) (cl:=[S (aE d.p0.group d.p0.index)]) (E:=9) rfl (fun w=>by kernel_rfl) (fun a285 w287 b284 s286 h288=> ?_)
  have h288:Holds _ _ ([(b284,.cells #[S (aE d.p0.group d.p0.index)] 9 (0,0))]::[(b252,.cells #[.int .u8 d.p0.group,.int .u8 d.p0.index] 72 (0,0))]::[(b222,.cells #[S (aE d.client.node d.client.life),S (Lib.itoa d.seq)] 9 (0,0))]::[(b198,.cells (dV d) 75 (0,0))]::F):=h288
  have h289:Holds _ _ ([(b222,.cells #[S (aE d.client.node d.client.life),S (Lib.itoa d.seq)] 9 (0,0))]::[(b284,.cells #[S (aE d.p0.group d.p0.index)] 9 (0,0))]::[(b252,.cells #[.int .u8 d.p0.group,.int .u8 d.p0.index] 72 (0,0))]::[(b198,.cells (dV d) 75 (0,0))]::F):=h288.front 2 rfl
  refine ox s286 rfl (Row.lit (E:=9) (size:=1) (n:=2) (b:=b222) (xs:=[S (aE d.client.node d.client.life),S (Lib.itoa d.seq)]) rfl (by decide)) h289 rfl rfl xy Dr (news:=[S (aE d.p0.group d.p0.index)]) rfl (h289.rowI 1 0 (o:=0) rfl rfl rfl) rfl (by omega) (by omega) (fun a290 w292 ao294 cap295 c296 s291 r297 h293=> ?_)
  have h298:Holds _ _ ([(b284,.cells #[S (aE d.p0.group d.p0.index)] 9 (0,0))]::c296::[(b252,.cells #[.int .u8 d.p0.group,.int .u8 d.p0.index] 72 (0,0))]::[(b198,.cells (dV d) 75 (0,0))]::F):=h293.front 1 rfl
  have h299:Holds _ _ (c296::[(b252,.cells #[.int .u8 d.p0.group,.int .u8 d.p0.index] 72 (0,0))]::[(b198,.cells (dV d) 75 (0,0))]::F):=h298.drop
  refine ae s291 rfl (fun _ k=>aZ (s291.ev rfl) k) (fun a300 s301=> ?_)
  refine wpList_nil ?_
  refine iS ?_
  refine aj ?_
  refine wp_region_lit ?_
  refine ae s301 rfl (fun _ k=>nh (s301.ev rfl) (s301.ev rfl) (z:=1) rfl k) (fun a302 s303=> ?_)
  refine ae s303 rfl (fun _ k=>bd (s303.ev rfl) k) (fun a304 s305=> ?_)
  refine wpList_nil ?_
  refine aj ?_
  refine cv (n:=2) ?_
  refine wp_seq ?_
  refine wp_region_lit ?_
  refine ae s305 rfl (fun _ k=>fm (s305.ev rfl) (s305.ev rfl) k) (fun a306 s307=> ?_)
  refine wpList_nil ?_
  refine aj ?_
  refine wp_seq ?_
  refine nc s307 rfl rfl ?_
  refine wp_skip ?_
  refine aj ?_
  refine wp_seq ?_
  refine wp_block ?_
  refine wp_seq ?_
  refine wp_region_lit ?_
  refine ae s307 rfl (fun _ k=>iX (s307.ev rfl) (s307.ev rfl) eU di (i:=1) rfl (by decide) rfl rfl (m:=6) rfl k) (fun a309 s310=> ?_)
  refine ae s310 rfl (fun _ k=>fE (s310.ev rfl) tc di (cs:=[.int .u8 d.p1.group,.int .u8 d.p1.index]) rfl (h299.rowI 2 0 (cs:=[.int .u8 d.p1.group,.int .u8 d.p1.index]) (o:=6) rfl rfl rfl) k) (fun a311 s312=> ?_)
  refine iU s312 rfl h299 lc (fun a314 w316 b313 s315 h317=> ?_)
  refine fO s315 rfl rfl di rfl h317 (j:=0) rfl rfl rfl (cl:=[.int .u8 d.p1.group,.int .u8 d.p1.index]) (by kernel_rfl) (fun a318 w320 s319 h321=> ?_)
  have h321:Holds _ _ ([(b313,.cells #[.int .u8 d.p1.group,.int .u8 d.p1.index] 72 (0,0))]::c296::[(b252,.cells #[.int .u8 d.p0.group,.int .u8 d.p0.index] 72 (0,0))]::[(b198,.cells (dV d) 75 (0,0))]::F):=h321
  refine wpList_nil ?_
  refine aj ?_
  refine wp_region_lit ?_
  refine ae s319 rfl (fun _ k=>bd (s319.ev rfl) k) (fun a322 s323=> ?_)
  refine ae s323 rfl (fun _ k=>ax (s323.ev rfl) iW k) (fun a324 s325=> ?_)
  refine ae s325 rfl (fun _ k=>aO (s325.ev rfl) fi ((h321.rowI 0 0 (cs:=[.int .u8 d.p1.group]) (o:=0) rfl rfl rfl) 0 _ rfl) k) (fun a326 s327=> ?_)
  refine ae s327 rfl (fun _ k=>bx (s327.ev rfl) du cy (aU (by omega) (by omega)) k) (fun a328 s329=> ?_)
  refine ae s329 rfl (fun _ k=>ax (s329.ev rfl) iV k) (fun a330 s331=> ?_)
  refine ae s331 rfl (fun _ k=>aO (s331.ev rfl) fi ((h321.rowI 0 0 (cs:=[.int .u8 d.p1.index]) (o:=1) rfl rfl rfl) 0 _ rfl) k) (fun a332 s333=> ?_)
  refine ae s333 rfl (fun _ k=>bx (s333.ev rfl) du cy (aU (by omega) (by omega)) k) (fun a334 s335=> ?_)
  refine db s335 rfl wN rfl (fZ d.p1.group d.p1.index (by omega) (by omega) ht h321) (fun a336 w338 v343 G340 hs344 h339 hv342 s337=> ?_)
  subst hv342
  have ht:=ht.mono hs344
  have hG341:=hG280.trans hs344
  have hL_960299:=cq d.p1.group d.p1.index (by omega) (by omega)
  refine dK s337 rfl h339 (vs:=[(0,S (aE d.p1.group d.p1.index))]) (cl:=[S (aE d.p1.group d.p1.index)]) (E:=9) rfl (fun w=>by kernel_rfl) (fun a346 w348 b345 s347 h349=> ?_)
  have h349:Holds _ _ ([(b345,.cells #[S (aE d.p1.group d.p1.index)] 9 (0,0))]::[(b313,.cells #[.int .u8 d.p1.group,.int .u8 d.p1.index] 72 (0,0))]::c296::[(b252,.cells #[.int .u8 d.p0.group,.int .u8 d.p0.index] 72 (0,0))]::[(b198,.cells (dV d) 75 (0,0))]::F):=h349
  have h350:Holds _ _ (c296::[(b345,.cells #[S (aE d.p1.group d.p1.index)] 9 (0,0))]::[(b313,.cells #[.int .u8 d.p1.group,.int .u8 d.p1.index] 72 (0,0))]::[(b252,.cells #[.int .u8 d.p0.group,.int .u8 d.p0.index] 72 (0,0))]::[(b198,.cells (dV d) 75 (0,0))]::F):=h349.front 2 rfl
  refine ox s347 rfl r297 h350 rfl rfl xy Dr (news:=[S (aE d.p1.group d.p1.index)]) rfl (h350.rowI 1 0 (o:=0) rfl rfl rfl) rfl (by omega) (by omega) (fun a351 w353 ao355 cap356 c357 s352 r358 h354=> ?_)
  have h359:Holds _ _ ([(b345,.cells #[S (aE d.p1.group d.p1.index)] 9 (0,0))]::c357::[(b313,.cells #[.int .u8 d.p1.group,.int .u8 d.p1.index] 72 (0,0))]::[(b252,.cells #[.int .u8 d.p0.group,.int .u8 d.p0.index] 72 (0,0))]::[(b198,.cells (dV d) 75 (0,0))]::F):=h354.front 1 rfl
  have h360:Holds _ _ (c357::[(b313,.cells #[.int .u8 d.p1.group,.int .u8 d.p1.index] 72 (0,0))]::[(b252,.cells #[.int .u8 d.p0.group,.int .u8 d.p0.index] 72 (0,0))]::[(b198,.cells (dV d) 75 (0,0))]::F):=h359.drop
  refine ae s352 rfl (fun _ k=>aZ (s352.ev rfl) k) (fun a361 s362=> ?_)
  refine wpList_nil ?_
  refine iS ?_
  refine aj ?_
  refine wp_region_lit ?_
  refine ae s362 rfl (fun _ k=>nh (s362.ev rfl) (s362.ev rfl) (z:=2) rfl k) (fun a363 s364=> ?_)
  refine ae s364 rfl (fun _ k=>bd (s364.ev rfl) k) (fun a365 s366=> ?_)
  refine wpList_nil ?_
  refine aj ?_
  refine cv (n:=1) ?_
  refine wp_seq ?_
  refine wp_region_lit ?_
  refine ae s366 rfl (fun _ k=>fm (s366.ev rfl) (s366.ev rfl) k) (fun a367 s368=> ?_)
  refine wpList_nil ?_
  refine aj ?_
  refine wp_seq ?_
  refine rD s368 rfl rfl ?_
  refine wp_exit ?_
  refine eA ?_
  refine eA ?_
  refine oV ?_
  refine aj ?_
  refine wp_seq ?_
  refine wp_region_lit ?_
  refine ae s368 rfl (fun _ k=>bd (s368.ev rfl) k) (fun a370 s371=> ?_)
  obtain⟨G372,hs373,h374,hr375⟩:=Row.toG (enc:=MU) (l:=[aE d.client.node d.client.life,Lib.itoa d.seq,aE d.p0.group d.p0.index,aE d.p1.group d.p1.index]) (fun _=>rfl) r358 (by first|rfl|(simp only[acT];omega)) h360
  have ht:=ht.mono hs373
  have hG376:=hG341.trans hs373
  refine db s371 rfl Qz rfl (wk ao355 cap356 [aE d.client.node d.client.life,Lib.itoa d.seq,aE d.p0.group d.p0.index,aE d.p1.group d.p1.index] [47] hr375 (by first|exact hl|(refine Nat.le_trans (qT _ _) ?_;simp only[acR,acJ,acO,List.sum_append,List.sum_cons,List.sum_nil,acC,acD,acF];omega)) (by first|exact hn|(simp only[acC,acD,acF];omega)) h374) (fun a377 w379 v384 G381 hs385 h380 hv383 s378=> ?_)
  subst hv383
  have ht:=ht.mono hs385
  have hr375:=hr375.mono hs385
  have hG382:=hG376.trans hs385
  refine ae s378 rfl (fun _ k=>aZ (s378.ev rfl) k) (fun a386 s387=> ?_)
  refine wpList_nil ?_
  refine aj ?_
  refine wp_ret ?_
  refine lG s387 rfl rfl ⟨_,_,rfl,hG382,h380.drop.drop.drop,?_⟩
  first|(unfold ah;rw[ol d (by omega)];rfl)|(unfold ah;rw[oi d (by omega) (by omega)];rfl)|(unfold ah;rw[oh d (by omega) (by omega)];rfl)|(unfold ah;rw[og d (by omega)];rfl)
 ·
  refine wp_seq ?_
  refine wp_region_lit ?_
  refine vK s0 rfl rfl h (fun a389 w391 b388 s390 h392=> ?_)
  have h392:Holds _ _ ([(b388,.cells (dV d) 75 (0,0))]::F):=h392
  refine ae s390 rfl (fun _ k=>aZ (s390.ev rfl) k) (fun a393 s394=> ?_)
  refine wpList_nil ?_
  refine aj ?_
  refine wp_seq ?_
  have hok:vP 44 [(1,.pointer (some ⟨b388,0,none⟩)),(2,S [])] [(some 6,Fact.eq (.pointer (some ⟨b388,0,none⟩))),(some 7,Fact.eq (.pointer (some ⟨b388,0,none⟩))),(some 8,Fact.eq (.int .u8 d.client.node)),(some 9,Fact.eq (.int .i64 d.client.node)),(some 10,Fact.eq (.pointer (some ⟨b388,0,none⟩))),(some 11,Fact.eq (.pointer (some ⟨b388,1,none⟩))),(some 12,Fact.eq (.int .u16 d.client.life)),(some 13,Fact.eq (.int .i64 d.client.life)),(some 14,Fact.eq (S (aE d.client.node d.client.life))),(some 15,Fact.eq (.pointer (some ⟨b388,2,none⟩))),(some 16,Fact.eq (.int .u32 d.seq)),(some 17,Fact.eq (.int .i64 d.seq))] []=true:=rfl
  refine pH 12 [1,2,3,8,5,6,7,8,12,10,11,12,13,14] (N:=44) (L0:=[(1,.pointer (some ⟨b388,0,none⟩)),(2,S [])]) (X:=[(some 6,Fact.eq (.pointer (some ⟨b388,0,none⟩))),(some 7,Fact.eq (.pointer (some ⟨b388,0,none⟩))),(some 8,Fact.eq (.int .u8 d.client.node)),(some 9,Fact.eq (.int .i64 d.client.node)),(some 10,Fact.eq (.pointer (some ⟨b388,0,none⟩))),(some 11,Fact.eq (.pointer (some ⟨b388,1,none⟩))),(some 12,Fact.eq (.int .u16 d.client.life)),(some 13,Fact.eq (.int .i64 d.client.life)),(some 14,Fact.eq (S (aE d.client.node d.client.life))),(some 15,Fact.eq (.pointer (some ⟨b388,2,none⟩))),(some 16,Fact.eq (.int .u32 d.seq)),(some 17,Fact.eq (.int .i64 d.seq))]) (O:=[]) (HR:=fun D a _ H=>H=([(b388,.cells (dV d) 75 (0,0))]::F)) mixed rfl rfl rfl h392 rfl (s394.sub (all_cons rfl (all_cons rfl (lA)))) (fun i k t v hi=>by simp at hi) ⟨?_,?_,?_,?_,?_,?_,?_,?_,?_,?_,?_,?_,trivial⟩ (fun D a w G H hall j=> ?_)
  ·exact ay rfl (fun D a w G H hR j=>by(have s:=j.sf;exact ax (s.ev rfl) fx (j.did hok rfl (GS.Le.refl _) j.holds j.hr rfl)))
  ·exact ay rfl (fun D a w G H hR j=>by(have s:=(j.sf.know _ _ (j.gotE 0 rfl (hR.was rfl 0 rfl)));exact ax (s.ev rfl) pf (j.did hok rfl (GS.Le.refl _) j.holds j.hr rfl)))
  ·exact ay rfl (fun D a w G H hR j=>by(have hH:=j.hr;subst H;have s:=(j.sf.know _ _ (j.gotE 1 rfl (hR.was rfl 1 rfl)));exact aO (s.ev rfl) fi ((j.holds.rowI 0 0 (cs:=[.int .u8 d.client.node]) (o:=0) rfl rfl rfl) 0 _ rfl) (j.did hok rfl (GS.Le.refl _) j.holds j.hr rfl)))
  ·exact ay rfl (fun D a w G H hR j=>by(have s:=(j.sf.know _ _ (j.gotE 2 rfl (hR.was rfl 2 rfl)));exact bx (s.ev rfl) du cy (aU (by omega) (by omega)) (j.did hok rfl (GS.Le.refl _) j.holds j.hr rfl)))
  ·exact ay rfl (fun D a w G H hR j=>by(have s:=j.sf;exact ax (s.ev rfl) fx (j.did hok rfl (GS.Le.refl _) j.holds j.hr rfl)))
  ·exact ay rfl (fun D a w G H hR j=>by(have s:=(j.sf.know _ _ (j.gotE 4 rfl (hR.was rfl 4 rfl)));exact ax (s.ev rfl) pe (j.did hok rfl (GS.Le.refl _) j.holds j.hr rfl)))
  ·exact ay rfl (fun D a w G H hR j=>by(have hH:=j.hr;subst H;have s:=(j.sf.know _ _ (j.gotE 5 rfl (hR.was rfl 5 rfl)));exact aO (s.ev rfl) Cu ((j.holds.rowI 0 0 (cs:=[.int .u16 d.client.life]) (o:=1) rfl rfl rfl) 0 _ rfl) (j.did hok rfl (GS.Le.refl _) j.holds j.hr rfl)))
  ·exact ay rfl (fun D a w G H hR j=>by(have s:=(j.sf.know _ _ (j.gotE 6 rfl (hR.was rfl 6 rfl)));exact bx (s.ev rfl) vB cy (aU (by omega) (by omega)) (j.did hok rfl (GS.Le.refl _) j.holds j.hr rfl)))
  ·exact ay rfl (fun D a w G H hR j=>by(have s:=((j.sf.know _ _ (j.gotE 3 rfl (hR.was rfl 3 rfl))).know _ _ (j.gotE 7 rfl (hR.was rfl 7 rfl)));exact jl s rfl wN (fZ d.client.node d.client.life (by omega) (by omega) (ht.mono j.le) j.holds) (fun e w' ⟨v,G',he,hG,hh,hv⟩=>⟨v,he,j.did hok rfl hG hh j.hr hv⟩)))
  ·exact ay rfl (fun D a w G H hR j=>by(have s:=j.sf;exact ax (s.ev rfl) pd (j.did hok rfl (GS.Le.refl _) j.holds j.hr rfl)))
  ·exact ay rfl (fun D a w G H hR j=>by(have hH:=j.hr;subst H;have s:=(j.sf.know _ _ (j.gotE 9 rfl (hR.was rfl 9 rfl)));exact aO (s.ev rfl) Ct ((j.holds.rowI 0 0 (cs:=[.int .u32 d.seq]) (o:=2) rfl rfl rfl) 0 _ rfl) (j.did hok rfl (GS.Le.refl _) j.holds j.hr rfl)))
  ·exact ay rfl (fun D a w G H hR j=>by(have s:=(j.sf.know _ _ (j.gotE 10 rfl (hR.was rfl 10 rfl)));exact bx (s.ev rfl) vA cy (aU (by omega) (by omega)) (j.did hok rfl (GS.Le.refl _) j.holds j.hr rfl)))
  have s396:=((j.sf.know _ _ (j.gotE 8 rfl (hall 8 (by decide)))).know _ _ (j.gotE 11 rfl (hall 11 (by decide))))
  have hH:=j.hr
  subst H
  have hle402:=j.le
  have ht:=ht.mono hle402
  have hG400:=(GS.Le.refl _).trans hle402
  have h401:Holds _ _ ([(b388,.cells (dV d) 75 (0,0))]::F):=j.holds
  clear j hall hok
  refine db s396 rfl sT rfl (fH d.seq (by omega) ht h401) (fun a403 w405 v410 G407 hs411 h406 hv409 s404=> ?_)
  subst hv409
  have ht:=ht.mono hs411
  have hG408:=hG400.trans hs411
  have hL_203868:=Lib.itoa_length_le d.seq (by omega) (by omega)
  refine dK s404 rfl h406 (vs:=[(0,S (aE d.client.node d.client.life)),(1,S (Lib.itoa d.seq))]) (cl:=[S (aE d.client.node d.client.life),S (Lib.itoa d.seq)]) (E:=9) rfl (fun w=>by kernel_rfl) (fun a413 w415 b412 s414 h416=> ?_)
  have h416:Holds _ _ ([(b412,.cells #[S (aE d.client.node d.client.life),S (Lib.itoa d.seq)] 9 (0,0))]::[(b388,.cells (dV d) 75 (0,0))]::F):=h416
  refine ae s414 rfl (fun _ k=>aZ (s414.ev rfl) k) (fun a417 s418=> ?_)
  refine wpList_nil ?_
  refine aj ?_
  refine wp_seq ?_
  refine wp_seq ?_
  refine wp_region_lit ?_
  refine ae s418 rfl (fun _ k=>ax (s418.ev rfl) pb k) (fun a419 s420=> ?_)
  refine ae s420 rfl (fun _ k=>ax (s420.ev rfl) pc k) (fun a421 s422=> ?_)
  refine ae s422 rfl (fun _ k=>aO (s422.ev rfl) fi ((h416.rowI 1 0 (cs:=[.int .u8 d.depth]) (o:=3) rfl rfl rfl) 0 _ rfl) k) (fun a423 s424=> ?_)
  refine ae s424 rfl (fun _ k=>bx (s424.ev rfl) du cy (aU (by omega) (by omega)) k) (fun a425 s426=> ?_)
  refine ae s426 rfl (fun _ k=>ss (s426.ev rfl) (s426.ev rfl) (z:=3) (by omega) k) (fun a427 s428=> ?_)
  refine ae s428 rfl (fun _ k=>mj (s428.ev rfl) (s428.ev rfl) vz (m:=3) di rfl (by decide) k) (fun a429 s430=> ?_)
  refine ae s430 rfl (fun _ k=>rJ (s430.ev rfl) eU k) (fun a431 s432=> ?_)
  refine ae s432 rfl (fun _ k=>bd (s432.ev rfl) k) (fun a433 s434=> ?_)
  refine wpList_nil ?_
  refine aj ?_
  refine wp_block ?_
  refine wp_loop_rounds 4 ?_
  refine cv (n:=3) ?_
  refine wp_seq ?_
  refine wp_region_lit ?_
  refine ae s434 rfl (fun _ k=>fm (s434.ev rfl) (s434.ev rfl) k) (fun a435 s436=> ?_)
  refine wpList_nil ?_
  refine aj ?_
  refine wp_seq ?_
  refine nc s436 rfl rfl ?_
  refine wp_skip ?_
  refine aj ?_
  refine wp_seq ?_
  refine wp_block ?_
  refine wp_seq ?_
  refine wp_region_lit ?_
  refine ae s436 rfl (fun _ k=>iX (s436.ev rfl) (s436.ev rfl) eU di (i:=0) rfl (by decide) rfl rfl (m:=4) rfl k) (fun a438 s439=> ?_)
  refine ae s439 rfl (fun _ k=>fE (s439.ev rfl) tc di (cs:=[.int .u8 d.p0.group,.int .u8 d.p0.index]) rfl (h416.rowI 1 0 (cs:=[.int .u8 d.p0.group,.int .u8 d.p0.index]) (o:=4) rfl rfl rfl) k) (fun a440 s441=> ?_)
  refine iU s441 rfl h416 lc (fun a443 w445 b442 s444 h446=> ?_)
  refine fO s444 rfl rfl di rfl h446 (j:=0) rfl rfl rfl (cl:=[.int .u8 d.p0.group,.int .u8 d.p0.index]) (by kernel_rfl) (fun a447 w449 s448 h450=> ?_)
  have h450:Holds _ _ ([(b442,.cells #[.int .u8 d.p0.group,.int .u8 d.p0.index] 72 (0,0))]::[(b412,.cells #[S (aE d.client.node d.client.life),S (Lib.itoa d.seq)] 9 (0,0))]::[(b388,.cells (dV d) 75 (0,0))]::F):=h450
  refine wpList_nil ?_
  refine aj ?_
  refine wp_region_lit ?_
  refine ae s448 rfl (fun _ k=>bd (s448.ev rfl) k) (fun a451 s452=> ?_)
  refine ae s452 rfl (fun _ k=>ax (s452.ev rfl) iW k) (fun a453 s454=> ?_)
  refine ae s454 rfl (fun _ k=>aO (s454.ev rfl) fi ((h450.rowI 0 0 (cs:=[.int .u8 d.p0.group]) (o:=0) rfl rfl rfl) 0 _ rfl) k) (fun a455 s456=> ?_)
  refine ae s456 rfl (fun _ k=>bx (s456.ev rfl) du cy (aU (by omega) (by omega)) k) (fun a457 s458=> ?_)
  refine ae s458 rfl (fun _ k=>ax (s458.ev rfl) iV k) (fun a459 s460=> ?_)
  refine ae s460 rfl (fun _ k=>aO (s460.ev rfl) fi ((h450.rowI 0 0 (cs:=[.int .u8 d.p0.index]) (o:=1) rfl rfl rfl) 0 _ rfl) k) (fun a461 s462=> ?_)
  refine ae s462 rfl (fun _ k=>bx (s462.ev rfl) du cy (aU (by omega) (by omega)) k) (fun a463 s464=> ?_)
  refine db s464 rfl wN rfl (fZ d.p0.group d.p0.index (by omega) (by omega) ht h450) (fun a465 w467 v472 G469 hs473 h468 hv471 s466=> ?_)
  subst hv471
  have ht:=ht.mono hs473
  have hG470:=hG408.trans hs473
  have hL_738460:=cq d.p0.group d.p0.index (by omega) (by omega)
  refine dK s466 rfl h468 (vs:=[(0,S (aE d.p0.group d.p0.index))]) (cl:=[S (aE d.p0.group d.p0.index)]) (E:=9) rfl (fun w=>by kernel_rfl) (fun a475 w477 b474 s476 h478=> ?_)
  have h478:Holds _ _ ([(b474,.cells #[S (aE d.p0.group d.p0.index)] 9 (0,0))]::[(b442,.cells #[.int .u8 d.p0.group,.int .u8 d.p0.index] 72 (0,0))]::[(b412,.cells #[S (aE d.client.node d.client.life),S (Lib.itoa d.seq)] 9 (0,0))]::[(b388,.cells (dV d) 75 (0,0))]::F):=h478
  have h479:Holds _ _ ([(b412,.cells #[S (aE d.client.node d.client.life),S (Lib.itoa d.seq)] 9 (0,0))]::[(b474,.cells #[S (aE d.p0.group d.p0.index)] 9 (0,0))]::[(b442,.cells #[.int .u8 d.p0.group,.int .u8 d.p0.index] 72 (0,0))]::[(b388,.cells (dV d) 75 (0,0))]::F):=h478.front 2 rfl
  refine ox s476 rfl (Row.lit (E:=9) (size:=1) (n:=2) (b:=b412) (xs:=[S (aE d.client.node d.client.life),S (Lib.itoa d.seq)]) rfl (by decide)) h479 rfl rfl xy Dr (news:=[S (aE d.p0.group d.p0.index)]) rfl (h479.rowI 1 0 (o:=0) rfl rfl rfl) rfl (by omega) (by omega) (fun a480 w482 ao484 cap485 c486 s481 r487 h483=> ?_)
  have h488:Holds _ _ ([(b474,.cells #[S (aE d.p0.group d.p0.index)] 9 (0,0))]::c486::[(b442,.cells #[.int .u8 d.p0.group,.int .u8 d.p0.index] 72 (0,0))]::[(b388,.cells (dV d) 75 (0,0))]::F):=h483.front 1 rfl
  have h489:Holds _ _ (c486::[(b442,.cells #[.int .u8 d.p0.group,.int .u8 d.p0.index] 72 (0,0))]::[(b388,.cells (dV d) 75 (0,0))]::F):=h488.drop
  refine ae s481 rfl (fun _ k=>aZ (s481.ev rfl) k) (fun a490 s491=> ?_)
  refine wpList_nil ?_
  refine iS ?_
  refine aj ?_
  refine wp_region_lit ?_
  refine ae s491 rfl (fun _ k=>nh (s491.ev rfl) (s491.ev rfl) (z:=1) rfl k) (fun a492 s493=> ?_)
  refine ae s493 rfl (fun _ k=>bd (s493.ev rfl) k) (fun a494 s495=> ?_)
  refine wpList_nil ?_
  refine aj ?_
  refine cv (n:=2) ?_
  refine wp_seq ?_
  refine wp_region_lit ?_
  refine ae s495 rfl (fun _ k=>fm (s495.ev rfl) (s495.ev rfl) k) (fun a496 s497=> ?_)
  refine wpList_nil ?_
  refine aj ?_
  refine wp_seq ?_
  refine nc s497 rfl rfl ?_
  refine wp_skip ?_
  refine aj ?_
  refine wp_seq ?_
  refine wp_block ?_
  refine wp_seq ?_
  refine wp_region_lit ?_
  refine ae s497 rfl (fun _ k=>iX (s497.ev rfl) (s497.ev rfl) eU di (i:=1) rfl (by decide) rfl rfl (m:=6) rfl k) (fun a499 s500=> ?_)
  refine ae s500 rfl (fun _ k=>fE (s500.ev rfl) tc di (cs:=[.int .u8 d.p1.group,.int .u8 d.p1.index]) rfl (h489.rowI 2 0 (cs:=[.int .u8 d.p1.group,.int .u8 d.p1.index]) (o:=6) rfl rfl rfl) k) (fun a501 s502=> ?_)
  refine iU s502 rfl h489 lc (fun a504 w506 b503 s505 h507=> ?_)
  refine fO s505 rfl rfl di rfl h507 (j:=0) rfl rfl rfl (cl:=[.int .u8 d.p1.group,.int .u8 d.p1.index]) (by kernel_rfl) (fun a508 w510 s509 h511=> ?_)
  have h511:Holds _ _ ([(b503,.cells #[.int .u8 d.p1.group,.int .u8 d.p1.index] 72 (0,0))]::c486::[(b442,.cells #[.int .u8 d.p0.group,.int .u8 d.p0.index] 72 (0,0))]::[(b388,.cells (dV d) 75 (0,0))]::F):=h511
  refine wpList_nil ?_
  refine aj ?_
  refine wp_region_lit ?_
  refine ae s509 rfl (fun _ k=>bd (s509.ev rfl) k) (fun a512 s513=> ?_)
  refine ae s513 rfl (fun _ k=>ax (s513.ev rfl) iW k) (fun a514 s515=> ?_)
  refine ae s515 rfl (fun _ k=>aO (s515.ev rfl) fi ((h511.rowI 0 0 (cs:=[.int .u8 d.p1.group]) (o:=0) rfl rfl rfl) 0 _ rfl) k) (fun a516 s517=> ?_)
  refine ae s517 rfl (fun _ k=>bx (s517.ev rfl) du cy (aU (by omega) (by omega)) k) (fun a518 s519=> ?_)
  refine ae s519 rfl (fun _ k=>ax (s519.ev rfl) iV k) (fun a520 s521=> ?_)
  refine ae s521 rfl (fun _ k=>aO (s521.ev rfl) fi ((h511.rowI 0 0 (cs:=[.int .u8 d.p1.index]) (o:=1) rfl rfl rfl) 0 _ rfl) k) (fun a522 s523=> ?_)
  refine ae s523 rfl (fun _ k=>bx (s523.ev rfl) du cy (aU (by omega) (by omega)) k) (fun a524 s525=> ?_)
  refine db s525 rfl wN rfl (fZ d.p1.group d.p1.index (by omega) (by omega) ht h511) (fun a526 w528 v533 G530 hs534 h529 hv532 s527=> ?_)
  subst hv532
  have ht:=ht.mono hs534
  have hG531:=hG470.trans hs534
  have hL_960299:=cq d.p1.group d.p1.index (by omega) (by omega)
  refine dK s527 rfl h529 (vs:=[(0,S (aE d.p1.group d.p1.index))]) (cl:=[S (aE d.p1.group d.p1.index)]) (E:=9) rfl (fun w=>by kernel_rfl) (fun a536 w538 b535 s537 h539=> ?_)
  have h539:Holds _ _ ([(b535,.cells #[S (aE d.p1.group d.p1.index)] 9 (0,0))]::[(b503,.cells #[.int .u8 d.p1.group,.int .u8 d.p1.index] 72 (0,0))]::c486::[(b442,.cells #[.int .u8 d.p0.group,.int .u8 d.p0.index] 72 (0,0))]::[(b388,.cells (dV d) 75 (0,0))]::F):=h539
  have h540:Holds _ _ (c486::[(b535,.cells #[S (aE d.p1.group d.p1.index)] 9 (0,0))]::[(b503,.cells #[.int .u8 d.p1.group,.int .u8 d.p1.index] 72 (0,0))]::[(b442,.cells #[.int .u8 d.p0.group,.int .u8 d.p0.index] 72 (0,0))]::[(b388,.cells (dV d) 75 (0,0))]::F):=h539.front 2 rfl
  refine ox s537 rfl r487 h540 rfl rfl xy Dr (news:=[S (aE d.p1.group d.p1.index)]) rfl (h540.rowI 1 0 (o:=0) rfl rfl rfl) rfl (by omega) (by omega) (fun a541 w543 ao545 cap546 c547 s542 r548 h544=> ?_)
  have h549:Holds _ _ ([(b535,.cells #[S (aE d.p1.group d.p1.index)] 9 (0,0))]::c547::[(b503,.cells #[.int .u8 d.p1.group,.int .u8 d.p1.index] 72 (0,0))]::[(b442,.cells #[.int .u8 d.p0.group,.int .u8 d.p0.index] 72 (0,0))]::[(b388,.cells (dV d) 75 (0,0))]::F):=h544.front 1 rfl
  have h550:Holds _ _ (c547::[(b503,.cells #[.int .u8 d.p1.group,.int .u8 d.p1.index] 72 (0,0))]::[(b442,.cells #[.int .u8 d.p0.group,.int .u8 d.p0.index] 72 (0,0))]::[(b388,.cells (dV d) 75 (0,0))]::F):=h549.drop
  refine ae s542 rfl (fun _ k=>aZ (s542.ev rfl) k) (fun a551 s552=> ?_)
  refine wpList_nil ?_
  refine iS ?_
  refine aj ?_
  refine wp_region_lit ?_
  refine ae s552 rfl (fun _ k=>nh (s552.ev rfl) (s552.ev rfl) (z:=2) rfl k) (fun a553 s554=> ?_)
  refine ae s554 rfl (fun _ k=>bd (s554.ev rfl) k) (fun a555 s556=> ?_)
  refine wpList_nil ?_
  refine aj ?_
  refine cv (n:=1) ?_
  refine wp_seq ?_
  refine wp_region_lit ?_
  refine ae s556 rfl (fun _ k=>fm (s556.ev rfl) (s556.ev rfl) k) (fun a557 s558=> ?_)
  refine wpList_nil ?_
  refine aj ?_
  refine wp_seq ?_
  refine nc s558 rfl rfl ?_
  refine wp_skip ?_
  refine aj ?_
  refine wp_seq ?_
  refine wp_block ?_
  refine wp_seq ?_
  refine wp_region_lit ?_
  refine ae s558 rfl (fun _ k=>iX (s558.ev rfl) (s558.ev rfl) eU di (i:=2) rfl (by decide) rfl rfl (m:=8) rfl k) (fun a560 s561=> ?_)
  refine ae s561 rfl (fun _ k=>fE (s561.ev rfl) tc di (cs:=[.int .u8 d.p2.group,.int .u8 d.p2.index]) rfl (h550.rowI 3 0 (cs:=[.int .u8 d.p2.group,.int .u8 d.p2.index]) (o:=8) rfl rfl rfl) k) (fun a562 s563=> ?_)
  refine iU s563 rfl h550 lc (fun a565 w567 b564 s566 h568=> ?_)
  refine fO s566 rfl rfl di rfl h568 (j:=0) rfl rfl rfl (cl:=[.int .u8 d.p2.group,.int .u8 d.p2.index]) (by kernel_rfl) (fun a569 w571 s570 h572=> ?_)
  have h572:Holds _ _ ([(b564,.cells #[.int .u8 d.p2.group,.int .u8 d.p2.index] 72 (0,0))]::c547::[(b503,.cells #[.int .u8 d.p1.group,.int .u8 d.p1.index] 72 (0,0))]::[(b442,.cells #[.int .u8 d.p0.group,.int .u8 d.p0.index] 72 (0,0))]::[(b388,.cells (dV d) 75 (0,0))]::F):=h572
  refine wpList_nil ?_
  refine aj ?_
  refine wp_region_lit ?_
  refine ae s570 rfl (fun _ k=>bd (s570.ev rfl) k) (fun a573 s574=> ?_)
  refine ae s574 rfl (fun _ k=>ax (s574.ev rfl) iW k) (fun a575 s576=> ?_)
  refine ae s576 rfl (fun _ k=>aO (s576.ev rfl) fi ((h572.rowI 0 0 (cs:=[.int .u8 d.p2.group]) (o:=0) rfl rfl rfl) 0 _ rfl) k) (fun a577 s578=> ?_)
  refine ae s578 rfl (fun _ k=>bx (s578.ev rfl) du cy (aU (by omega) (by omega)) k) (fun a579 s580=> ?_)
  refine ae s580 rfl (fun _ k=>ax (s580.ev rfl) iV k) (fun a581 s582=> ?_)
  refine ae s582 rfl (fun _ k=>aO (s582.ev rfl) fi ((h572.rowI 0 0 (cs:=[.int .u8 d.p2.index]) (o:=1) rfl rfl rfl) 0 _ rfl) k) (fun a583 s584=> ?_)
  refine ae s584 rfl (fun _ k=>bx (s584.ev rfl) du cy (aU (by omega) (by omega)) k) (fun a585 s586=> ?_)
  refine db s586 rfl wN rfl (fZ d.p2.group d.p2.index (by omega) (by omega) ht h572) (fun a587 w589 v594 G591 hs595 h590 hv593 s588=> ?_)
  subst hv593
  have ht:=ht.mono hs595
  have hG592:=hG531.trans hs595
  have hL_726770:=cq d.p2.group d.p2.index (by omega) (by omega)
  refine dK s588 rfl h590 (vs:=[(0,S (aE d.p2.group d.p2.index))]) (cl:=[S (aE d.p2.group d.p2.index)]) (E:=9) rfl (fun w=>by kernel_rfl) (fun a597 w599 b596 s598 h600=> ?_)
  have h600:Holds _ _ ([(b596,.cells #[S (aE d.p2.group d.p2.index)] 9 (0,0))]::[(b564,.cells #[.int .u8 d.p2.group,.int .u8 d.p2.index] 72 (0,0))]::c547::[(b503,.cells #[.int .u8 d.p1.group,.int .u8 d.p1.index] 72 (0,0))]::[(b442,.cells #[.int .u8 d.p0.group,.int .u8 d.p0.index] 72 (0,0))]::[(b388,.cells (dV d) 75 (0,0))]::F):=h600
  have h601:Holds _ _ (c547::[(b596,.cells #[S (aE d.p2.group d.p2.index)] 9 (0,0))]::[(b564,.cells #[.int .u8 d.p2.group,.int .u8 d.p2.index] 72 (0,0))]::[(b503,.cells #[.int .u8 d.p1.group,.int .u8 d.p1.index] 72 (0,0))]::[(b442,.cells #[.int .u8 d.p0.group,.int .u8 d.p0.index] 72 (0,0))]::[(b388,.cells (dV d) 75 (0,0))]::F):=h600.front 2 rfl
  refine ox s598 rfl r548 h601 rfl rfl xy Dr (news:=[S (aE d.p2.group d.p2.index)]) rfl (h601.rowI 1 0 (o:=0) rfl rfl rfl) rfl (by omega) (by omega) (fun a602 w604 ao606 cap607 c608 s603 r609 h605=> ?_)
  have h610:Holds _ _ ([(b596,.cells #[S (aE d.p2.group d.p2.index)] 9 (0,0))]::c608::[(b564,.cells #[.int .u8 d.p2.group,.int .u8 d.p2.index] 72 (0,0))]::[(b503,.cells #[.int .u8 d.p1.group,.int .u8 d.p1.index] 72 (0,0))]::[(b442,.cells #[.int .u8 d.p0.group,.int .u8 d.p0.index] 72 (0,0))]::[(b388,.cells (dV d) 75 (0,0))]::F):=h605.front 1 rfl
  have h611:Holds _ _ (c608::[(b564,.cells #[.int .u8 d.p2.group,.int .u8 d.p2.index] 72 (0,0))]::[(b503,.cells #[.int .u8 d.p1.group,.int .u8 d.p1.index] 72 (0,0))]::[(b442,.cells #[.int .u8 d.p0.group,.int .u8 d.p0.index] 72 (0,0))]::[(b388,.cells (dV d) 75 (0,0))]::F):=h610.drop
  refine ae s603 rfl (fun _ k=>aZ (s603.ev rfl) k) (fun a612 s613=> ?_)
  refine wpList_nil ?_
  refine iS ?_
  refine aj ?_
  refine wp_region_lit ?_
  refine ae s613 rfl (fun _ k=>nh (s613.ev rfl) (s613.ev rfl) (z:=3) rfl k) (fun a614 s615=> ?_)
  refine ae s615 rfl (fun _ k=>bd (s615.ev rfl) k) (fun a616 s617=> ?_)
  refine wpList_nil ?_
  refine aj ?_
  refine cv (n:=0) ?_
  refine wp_seq ?_
  refine wp_region_lit ?_
  refine ae s617 rfl (fun _ k=>fm (s617.ev rfl) (s617.ev rfl) k) (fun a618 s619=> ?_)
  refine wpList_nil ?_
  refine aj ?_
  refine wp_seq ?_
  refine rD s619 rfl rfl ?_
  refine wp_exit ?_
  refine eA ?_
  refine eA ?_
  refine oV ?_
  refine aj ?_
  refine wp_seq ?_
  refine wp_region_lit ?_
  refine ae s619 rfl (fun _ k=>bd (s619.ev rfl) k) (fun a621 s622=> ?_)
  obtain⟨G623,hs624,h625,hr626⟩:=Row.toG (enc:=MU) (l:=[aE d.client.node d.client.life,Lib.itoa d.seq,aE d.p0.group d.p0.index,aE d.p1.group d.p1.index,aE d.p2.group d.p2.index]) (fun _=>rfl) r609 (by first|rfl|(simp only[acT];omega)) h611
  have ht:=ht.mono hs624
  have hG627:=hG592.trans hs624
  refine db s622 rfl Qz rfl (wk ao606 cap607 [aE d.client.node d.client.life,Lib.itoa d.seq,aE d.p0.group d.p0.index,aE d.p1.group d.p1.index,aE d.p2.group d.p2.index] [47] hr626 (by first|exact hl|(refine Nat.le_trans (qT _ _) ?_;simp only[acR,acJ,acO,List.sum_append,List.sum_cons,List.sum_nil,acC,acD,acF];omega)) (by first|exact hn|(simp only[acC,acD,acF];omega)) h625) (fun a628 w630 v635 G632 hs636 h631 hv634 s629=> ?_)
  subst hv634
  have ht:=ht.mono hs636
  have hr626:=hr626.mono hs636
  have hG633:=hG627.trans hs636
  refine ae s629 rfl (fun _ k=>aZ (s629.ev rfl) k) (fun a637 s638=> ?_)
  refine wpList_nil ?_
  refine aj ?_
  refine wp_ret ?_
  refine lG s638 rfl rfl ⟨_,_,rfl,hG633,h631.drop.drop.drop.drop,?_⟩
  first|(unfold ah;rw[ol d (by omega)];rfl)|(unfold ah;rw[oi d (by omega) (by omega)];rfl)|(unfold ah;rw[oh d (by omega) (by omega)];rfl)|(unfold ah;rw[og d (by omega)];rfl)
theorem ip (m:Int) (n:Int) {G:GS} {w:World} {F:List aH} (h_m: -9223372036854775808≤m∧m≤9223372036854775807) (h_n: -9223372036854775808≤n∧n≤9223372036854775807) (ht:Jj G) (h:Holds G w F):
  Calls Tryz.prog 67 #[.int .i64 m,.int .i64 n] w (Ret G F fun G v=>v=S (aE m n)):=by
 refine enter (N:=11) (L:=[(0,.int .i64 m),(1,.int .i64 n)]) rfl Tryz.func67 rfl rfl rfl (fun a0 s0=> ?_)
 refine wp_seq ?_
 refine wp_region_lit ?_
 refine ae s0 rfl (fun _ k=>aZ (s0.ev rfl) k) (fun a1 s2=> ?_)
 refine wpList_nil ?_
 refine aj ?_
 refine wp_seq ?_
 refine wp_region_lit ?_
 refine ae s2 rfl (fun _ k=>bd (s2.ev rfl) k) (fun a3 s4=> ?_)
 refine db s4 rfl sT rfl (fH m (by omega) ht h) (fun a5 w7 v12 G9 hs13 h8 hv11 s6=> ?_)
 subst hv11
 have ht:=ht.mono hs13
 have hG10:=(GS.Le.refl _).trans hs13
 have hL_1192:=Lib.itoa_length_le m (by omega) (by omega)
 refine ae s6 rfl (fun _ k=>dt (s6.ev rfl) (s6.ev rfl) (by first|omega|(simp only[acC,acD,acF];omega)) k) (fun a14 s15=> ?_)
 refine ae s15 rfl (fun _ k=>bd (s15.ev rfl) k) (fun a16 s17=> ?_)
 refine db s17 rfl sT rfl (fH n (by omega) ht h8) (fun a18 w20 v25 G22 hs26 h21 hv24 s19=> ?_)
 subst hv24
 have ht:=ht.mono hs26
 have hG23:=hG10.trans hs26
 have hL_832146:=Lib.itoa_length_le n (by omega) (by omega)
 refine ae s19 rfl (fun _ k=>dt (s19.ev rfl) (s19.ev rfl) (by first|omega|(simp only[acC,acD,acF];omega)) k) (fun a27 s28=> ?_)
 refine ae s28 rfl (fun _ k=>aZ (s28.ev rfl) k) (fun a29 s30=> ?_)
 refine wpList_nil ?_
 refine aj ?_
 refine wp_ret ?_
 refine lG s30 rfl rfl ⟨_,_,rfl,hG23,h21,?_⟩
 rfl
theorem Rv (d:ID) {G:GS} {w:World} {F:List aH} (h_d:d.ok) (ht:Jj G) (h:Holds G w F):
  Calls Tryz.prog 68 #[.agg #[.int .u8 d.client.node,.int .u16 d.client.life,.int .u32 d.seq,.int .u8 d.depth,.int .u8 d.p0.group,.int .u8 d.p0.index,.int .u8 d.p1.group,.int .u8 d.p1.index,.int .u8 d.p2.group,.int .u8 d.p2.index]] w (Ret G F fun G v=>v=S (ah d)):=by
 obtain⟨⟨⟨hi1,hi2⟩,hi3,hi4⟩,⟨hi5,hi6⟩,⟨hi7,hi8⟩,⟨⟨hj1,hj2⟩,hj3,hj4⟩,⟨⟨hj5,hj6⟩,hj7,hj8⟩,⟨hk1,hk2⟩,hk3,hk4⟩:=h_d
 have hLa:=dp d.client.node (by constructor<;>omega)
 have hLa:=dp d.client.life (by constructor<;>omega)
 have hLa:=dp d.seq (by constructor<;>omega)
 have hLa:=dp d.p0.group (by constructor<;>omega)
 have hLa:=dp d.p0.index (by constructor<;>omega)
 have hLa:=dp d.p1.group (by constructor<;>omega)
 have hLa:=dp d.p1.index (by constructor<;>omega)
 have hLa:=dp d.p2.group (by constructor<;>omega)
 have hLa:=dp d.p2.index (by constructor<;>omega)
 have hLa:=cq d.client.node d.client.life (by constructor<;>omega) (by constructor<;>omega)
 have hLa:=cq d.p0.group d.p0.index (by constructor<;>omega) (by constructor<;>omega)
 have hLa:=cq d.p1.group d.p1.index (by constructor<;>omega) (by constructor<;>omega)
 have hLa:=cq d.p2.group d.p2.index (by constructor<;>omega) (by constructor<;>omega)
 refine enter (N:=44) (L:=[(0,.agg (dV d))]) rfl Tryz.func68 rfl rfl rfl (fun a0 s0=> ?_)
 rcases(show d.depth≤0∨d.depth=1∨d.depth=2∨3≤d.depth by omega) with hd|hd|hd|hd
 ·
  refine wp_seq ?_
  refine wp_region_lit ?_
  refine vK s0 rfl rfl h (fun a2 w4 b1 s3 h5=> ?_)
  have h5:Holds _ _ ([(b1,.cells (dV d) 75 (0,0))]::F):=h5
  refine ae s3 rfl (fun _ k=>aZ (s3.ev rfl) k) (fun a6 s7=> ?_)
  refine wpList_nil ?_
  refine aj ?_
  refine wp_seq ?_
  have hok:vP 44 [(1,.pointer (some ⟨b1,0,none⟩)),(2,S [])] [(some 6,Fact.eq (.pointer (some ⟨b1,0,none⟩))),(some 7,Fact.eq (.pointer (some ⟨b1,0,none⟩))),(some 8,Fact.eq (.int .u8 d.client.node)),(some 9,Fact.eq (.int .i64 d.client.node)),(some 10,Fact.eq (.pointer (some ⟨b1,0,none⟩))),(some 11,Fact.eq (.pointer (some ⟨b1,1,none⟩))),(some 12,Fact.eq (.int .u16 d.client.life)),(some 13,Fact.eq (.int .i64 d.client.life)),(some 14,Fact.eq (S (aE d.client.node d.client.life))),(some 15,Fact.eq (S ((aE d.client.node d.client.life)++[47]))),(some 16,Fact.eq (.pointer (some ⟨b1,2,none⟩))),(some 17,Fact.eq (.int .u32 d.seq)),(some 18,Fact.eq (.int .i64 d.seq)),(some 19,Fact.eq (S (Lib.itoa d.seq))),(some 20,Fact.eq (S (((aE d.client.node d.client.life)++[47])++(Lib.itoa d.seq)))),(some 3,Fact.eq (S (((aE d.client.node d.client.life)++[47])++(Lib.itoa d.seq))))] []=true:=rfl
  refine lu (N:=44) (L0:=[(1,.pointer (some ⟨b1,0,none⟩)),(2,S [])]) (X:=[(some 6,Fact.eq (.pointer (some ⟨b1,0,none⟩))),(some 7,Fact.eq (.pointer (some ⟨b1,0,none⟩))),(some 8,Fact.eq (.int .u8 d.client.node)),(some 9,Fact.eq (.int .i64 d.client.node)),(some 10,Fact.eq (.pointer (some ⟨b1,0,none⟩))),(some 11,Fact.eq (.pointer (some ⟨b1,1,none⟩))),(some 12,Fact.eq (.int .u16 d.client.life)),(some 13,Fact.eq (.int .i64 d.client.life)),(some 14,Fact.eq (S (aE d.client.node d.client.life))),(some 15,Fact.eq (S ((aE d.client.node d.client.life)++[47]))),(some 16,Fact.eq (.pointer (some ⟨b1,2,none⟩))),(some 17,Fact.eq (.int .u32 d.seq)),(some 18,Fact.eq (.int .i64 d.seq)),(some 19,Fact.eq (S (Lib.itoa d.seq))),(some 20,Fact.eq (S (((aE d.client.node d.client.life)++[47])++(Lib.itoa d.seq)))),(some 3,Fact.eq (S (((aE d.client.node d.client.life)++[47])++(Lib.itoa d.seq))))]) (O:=[]) (HR:=fun D a _ H=>H=([(b1,.cells (dV d) 75 (0,0))]::F)) mixed rfl h5 rfl (s7.sub (all_cons rfl (all_cons rfl (lA)))) (fun i k t v hi=>by simp at hi) ⟨?_,?_,?_,?_,?_,?_,?_,?_,?_,?_,?_,?_,?_,?_,?_,?_,trivial⟩ (fun D a w G H hall j=> ?_)
  ·exact ay rfl (fun D a w G H hR j=>by(have s:=j.sf;exact ax (s.ev rfl) fx (j.did hok rfl (GS.Le.refl _) j.holds j.hr rfl)))
  ·exact ay rfl (fun D a w G H hR j=>by(have s:=(j.sf.know _ _ (j.gotE 0 rfl (hR.was rfl 0 rfl)));exact ax (s.ev rfl) pf (j.did hok rfl (GS.Le.refl _) j.holds j.hr rfl)))
  ·exact ay rfl (fun D a w G H hR j=>by(have hH:=j.hr;subst H;have s:=(j.sf.know _ _ (j.gotE 1 rfl (hR.was rfl 1 rfl)));exact aO (s.ev rfl) fi ((j.holds.rowI 0 0 (cs:=[.int .u8 d.client.node]) (o:=0) rfl rfl rfl) 0 _ rfl) (j.did hok rfl (GS.Le.refl _) j.holds j.hr rfl)))
  ·exact ay rfl (fun D a w G H hR j=>by(have s:=(j.sf.know _ _ (j.gotE 2 rfl (hR.was rfl 2 rfl)));exact bx (s.ev rfl) du cy (aU (by omega) (by omega)) (j.did hok rfl (GS.Le.refl _) j.holds j.hr rfl)))
  ·exact ay rfl (fun D a w G H hR j=>by(have s:=j.sf;exact ax (s.ev rfl) fx (j.did hok rfl (GS.Le.refl _) j.holds j.hr rfl)))
  ·exact ay rfl (fun D a w G H hR j=>by(have s:=(j.sf.know _ _ (j.gotE 4 rfl (hR.was rfl 4 rfl)));exact ax (s.ev rfl) pe (j.did hok rfl (GS.Le.refl _) j.holds j.hr rfl)))
  ·exact ay rfl (fun D a w G H hR j=>by(have hH:=j.hr;subst H;have s:=(j.sf.know _ _ (j.gotE 5 rfl (hR.was rfl 5 rfl)));exact aO (s.ev rfl) Cu ((j.holds.rowI 0 0 (cs:=[.int .u16 d.client.life]) (o:=1) rfl rfl rfl) 0 _ rfl) (j.did hok rfl (GS.Le.refl _) j.holds j.hr rfl)))
  ·exact ay rfl (fun D a w G H hR j=>by(have s:=(j.sf.know _ _ (j.gotE 6 rfl (hR.was rfl 6 rfl)));exact bx (s.ev rfl) vB cy (aU (by omega) (by omega)) (j.did hok rfl (GS.Le.refl _) j.holds j.hr rfl)))
  ·exact ay rfl (fun D a w G H hR j=>by(have s:=((j.sf.know _ _ (j.gotE 3 rfl (hR.was rfl 3 rfl))).know _ _ (j.gotE 7 rfl (hR.was rfl 7 rfl)));exact jl s rfl wO (ip d.client.node d.client.life (by omega) (by omega) (ht.mono j.le) j.holds) (fun e w' ⟨v,G',he,hG,hh,hv⟩=>⟨v,he,j.did hok rfl hG hh j.hr hv⟩)))
  ·exact ay rfl (fun D a w G H hR j=>by(have s:=(j.sf.know _ _ (j.gotE 8 rfl (hR.was rfl 8 rfl)));exact dt (s.ev rfl) (s.ev rfl) (by first|omega|(simp only[acC,acD,acF];omega)) (j.did hok rfl (GS.Le.refl _) j.holds j.hr rfl)))
  ·exact ay rfl (fun D a w G H hR j=>by(have s:=j.sf;exact ax (s.ev rfl) pd (j.did hok rfl (GS.Le.refl _) j.holds j.hr rfl)))
  ·exact ay rfl (fun D a w G H hR j=>by(have hH:=j.hr;subst H;have s:=(j.sf.know _ _ (j.gotE 10 rfl (hR.was rfl 10 rfl)));exact aO (s.ev rfl) Ct ((j.holds.rowI 0 0 (cs:=[.int .u32 d.seq]) (o:=2) rfl rfl rfl) 0 _ rfl) (j.did hok rfl (GS.Le.refl _) j.holds j.hr rfl)))
  ·exact ay rfl (fun D a w G H hR j=>by(have s:=(j.sf.know _ _ (j.gotE 11 rfl (hR.was rfl 11 rfl)));exact bx (s.ev rfl) vA cy (aU (by omega) (by omega)) (j.did hok rfl (GS.Le.refl _) j.holds j.hr rfl)))
  ·exact ay rfl (fun D a w G H hR j=>by(have s:=(j.sf.know _ _ (j.gotE 12 rfl (hR.was rfl 12 rfl)));exact jl s rfl sT (fH d.seq (by omega) (ht.mono j.le) j.holds) (fun e w' ⟨v,G',he,hG,hh,hv⟩=>⟨v,he,j.did hok rfl hG hh j.hr hv⟩)))
  ·exact ay rfl (fun D a w G H hR j=>by(have s:=((j.sf.know _ _ (j.gotE 9 rfl (hR.was rfl 9 rfl))).know _ _ (j.gotE 13 rfl (hR.was rfl 13 rfl)));exact dt (s.ev rfl) (s.ev rfl) (by first|omega|(simp only[acC,acD,acF];omega)) (j.did hok rfl (GS.Le.refl _) j.holds j.hr rfl)))
  ·exact ay rfl (fun D a w G H hR j=>by(have s:=(j.sf.know _ _ (j.gotE 14 rfl (hR.was rfl 14 rfl)));exact aZ (s.ev rfl) (j.did hok rfl (GS.Le.refl _) j.holds j.hr rfl)))
  have s9:=(j.sf.know _ _ (j.gotE 15 rfl (hall 15 (by decide))))
  have hH:=j.hr
  subst H
  have hle15:=j.le
  have ht:=ht.mono hle15
  have hG13:=(GS.Le.refl _).trans hle15
  have h14:Holds _ _ ([(b1,.cells (dV d) 75 (0,0))]::F):=j.holds
  clear j hall hok
  refine aj ?_
  refine wp_seq ?_
  refine wp_seq ?_
  refine wp_region_lit ?_
  refine ae s9 rfl (fun _ k=>ax (s9.ev rfl) pb k) (fun a16 s17=> ?_)
  refine ae s17 rfl (fun _ k=>ax (s17.ev rfl) pc k) (fun a18 s19=> ?_)
  refine ae s19 rfl (fun _ k=>aO (s19.ev rfl) fi ((h14.rowI 0 0 (cs:=[.int .u8 d.depth]) (o:=3) rfl rfl rfl) 0 _ rfl) k) (fun a20 s21=> ?_)
  refine ae s21 rfl (fun _ k=>bx (s21.ev rfl) du cy (aU (by omega) (by omega)) k) (fun a22 s23=> ?_)
  refine ae s23 rfl (fun _ k=>ss (s23.ev rfl) (s23.ev rfl) (z:=0) (by omega) k) (fun a24 s25=> ?_)
  refine ae s25 rfl (fun _ k=>mj (s25.ev rfl) (s25.ev rfl) vz (m:=0) di rfl (by decide) k) (fun a26 s27=> ?_)
  refine ae s27 rfl (fun _ k=>rJ (s27.ev rfl) eU k) (fun a28 s29=> ?_)
  refine ae s29 rfl (fun _ k=>bd (s29.ev rfl) k) (fun a30 s31=> ?_)
  refine wpList_nil ?_
  refine aj ?_
  refine wp_block ?_
  refine wp_loop_rounds 4 ?_
  refine cv (n:=3) ?_
  refine wp_seq ?_
  refine wp_region_lit ?_
  refine ae s31 rfl (fun _ k=>fm (s31.ev rfl) (s31.ev rfl) k) (fun a32 s33=> ?_)
  refine wpList_nil ?_
  refine aj ?_
  refine wp_seq ?_
  refine rD s33 rfl rfl ?_
  refine wp_exit ?_
  refine eA ?_
  refine eA ?_
  refine oV ?_
  refine aj ?_
  refine wp_seq ?_
  refine wp_region_lit ?_
  refine ae s33 rfl (fun _ k=>bd (s33.ev rfl) k) (fun a35 s36=> ?_)
  refine ae s36 rfl (fun _ k=>aZ (s36.ev rfl) k) (fun a37 s38=> ?_)
  refine wpList_nil ?_
  refine aj ?_
  refine wp_ret ?_
  refine lG s38 rfl rfl ⟨_,_,rfl,hG13,h14.drop,?_⟩
  first|(unfold ah;rw[ol d (by omega)];simp only[acJ,acO,acK,acM,aC,aD,aE,acL];done)|(unfold ah;rw[oi d (by omega) (by omega)];simp only[acJ,acO,acK,acM,aC,aD,aE,acL];done)|(unfold ah;rw[oh d (by omega) (by omega)];simp only[acJ,acO,acK,acM,aC,aD,aE,acL];done)|(unfold ah;rw[og d (by omega)];simp only[acJ,acO,acK,acM,aC,aD,aE,acL];done)
 ·
  refine wp_seq ?_
  refine wp_region_lit ?_
  refine vK s0 rfl rfl h (fun a40 w42 b39 s41 h43=> ?_)
  have h43:Holds _ _ ([(b39,.cells (dV d) 75 (0,0))]::F):=h43
  refine ae s41 rfl (fun _ k=>aZ (s41.ev rfl) k) (fun a44 s45=> ?_)
  refine wpList_nil ?_
  refine aj ?_
  refine wp_seq ?_
  have hok:vP 44 [(1,.pointer (some ⟨b39,0,none⟩)),(2,S [])] [(some 6,Fact.eq (.pointer (some ⟨b39,0,none⟩))),(some 7,Fact.eq (.pointer (some ⟨b39,0,none⟩))),(some 8,Fact.eq (.int .u8 d.client.node)),(some 9,Fact.eq (.int .i64 d.client.node)),(some 10,Fact.eq (.pointer (some ⟨b39,0,none⟩))),(some 11,Fact.eq (.pointer (some ⟨b39,1,none⟩))),(some 12,Fact.eq (.int .u16 d.client.life)),(some 13,Fact.eq (.int .i64 d.client.life)),(some 14,Fact.eq (S (aE d.client.node d.client.life))),(some 15,Fact.eq (S ((aE d.client.node d.client.life)++[47]))),(some 16,Fact.eq (.pointer (some ⟨b39,2,none⟩))),(some 17,Fact.eq (.int .u32 d.seq)),(some 18,Fact.eq (.int .i64 d.seq)),(some 19,Fact.eq (S (Lib.itoa d.seq))),(some 20,Fact.eq (S (((aE d.client.node d.client.life)++[47])++(Lib.itoa d.seq)))),(some 3,Fact.eq (S (((aE d.client.node d.client.life)++[47])++(Lib.itoa d.seq))))] []=true:=rfl
  refine lu (N:=44) (L0:=[(1,.pointer (some ⟨b39,0,none⟩)),(2,S [])]) (X:=[(some 6,Fact.eq (.pointer (some ⟨b39,0,none⟩))),(some 7,Fact.eq (.pointer (some ⟨b39,0,none⟩))),(some 8,Fact.eq (.int .u8 d.client.node)),(some 9,Fact.eq (.int .i64 d.client.node)),(some 10,Fact.eq (.pointer (some ⟨b39,0,none⟩))),(some 11,Fact.eq (.pointer (some ⟨b39,1,none⟩))),(some 12,Fact.eq (.int .u16 d.client.life)),(some 13,Fact.eq (.int .i64 d.client.life)),(some 14,Fact.eq (S (aE d.client.node d.client.life))),(some 15,Fact.eq (S ((aE d.client.node d.client.life)++[47]))),(some 16,Fact.eq (.pointer (some ⟨b39,2,none⟩))),(some 17,Fact.eq (.int .u32 d.seq)),(some 18,Fact.eq (.int .i64 d.seq)),(some 19,Fact.eq (S (Lib.itoa d.seq))),(some 20,Fact.eq (S (((aE d.client.node d.client.life)++[47])++(Lib.itoa d.seq)))),(some 3,Fact.eq (S (((aE d.client.node d.client.life)++[47])++(Lib.itoa d.seq))))]) (O:=[]) (HR:=fun D a _ H=>H=([(b39,.cells (dV d) 75 (0,0))]::F)) mixed rfl h43 rfl (s45.sub (all_cons rfl (all_cons rfl (lA)))) (fun i k t v hi=>by simp at hi) ⟨?_,?_,?_,?_,?_,?_,?_,?_,?_,?_,?_,?_,?_,?_,?_,?_,trivial⟩ (fun D a w G H hall j=> ?_)
  ·exact ay rfl (fun D a w G H hR j=>by(have s:=j.sf;exact ax (s.ev rfl) fx (j.did hok rfl (GS.Le.refl _) j.holds j.hr rfl)))
  ·exact ay rfl (fun D a w G H hR j=>by(have s:=(j.sf.know _ _ (j.gotE 0 rfl (hR.was rfl 0 rfl)));exact ax (s.ev rfl) pf (j.did hok rfl (GS.Le.refl _) j.holds j.hr rfl)))
  ·exact ay rfl (fun D a w G H hR j=>by(have hH:=j.hr;subst H;have s:=(j.sf.know _ _ (j.gotE 1 rfl (hR.was rfl 1 rfl)));exact aO (s.ev rfl) fi ((j.holds.rowI 0 0 (cs:=[.int .u8 d.client.node]) (o:=0) rfl rfl rfl) 0 _ rfl) (j.did hok rfl (GS.Le.refl _) j.holds j.hr rfl)))
  ·exact ay rfl (fun D a w G H hR j=>by(have s:=(j.sf.know _ _ (j.gotE 2 rfl (hR.was rfl 2 rfl)));exact bx (s.ev rfl) du cy (aU (by omega) (by omega)) (j.did hok rfl (GS.Le.refl _) j.holds j.hr rfl)))
  ·exact ay rfl (fun D a w G H hR j=>by(have s:=j.sf;exact ax (s.ev rfl) fx (j.did hok rfl (GS.Le.refl _) j.holds j.hr rfl)))
  ·exact ay rfl (fun D a w G H hR j=>by(have s:=(j.sf.know _ _ (j.gotE 4 rfl (hR.was rfl 4 rfl)));exact ax (s.ev rfl) pe (j.did hok rfl (GS.Le.refl _) j.holds j.hr rfl)))
  ·exact ay rfl (fun D a w G H hR j=>by(have hH:=j.hr;subst H;have s:=(j.sf.know _ _ (j.gotE 5 rfl (hR.was rfl 5 rfl)));exact aO (s.ev rfl) Cu ((j.holds.rowI 0 0 (cs:=[.int .u16 d.client.life]) (o:=1) rfl rfl rfl) 0 _ rfl) (j.did hok rfl (GS.Le.refl _) j.holds j.hr rfl)))
  ·exact ay rfl (fun D a w G H hR j=>by(have s:=(j.sf.know _ _ (j.gotE 6 rfl (hR.was rfl 6 rfl)));exact bx (s.ev rfl) vB cy (aU (by omega) (by omega)) (j.did hok rfl (GS.Le.refl _) j.holds j.hr rfl)))
  ·exact ay rfl (fun D a w G H hR j=>by(have s:=((j.sf.know _ _ (j.gotE 3 rfl (hR.was rfl 3 rfl))).know _ _ (j.gotE 7 rfl (hR.was rfl 7 rfl)));exact jl s rfl wO (ip d.client.node d.client.life (by omega) (by omega) (ht.mono j.le) j.holds) (fun e w' ⟨v,G',he,hG,hh,hv⟩=>⟨v,he,j.did hok rfl hG hh j.hr hv⟩)))
  ·exact ay rfl (fun D a w G H hR j=>by(have s:=(j.sf.know _ _ (j.gotE 8 rfl (hR.was rfl 8 rfl)));exact dt (s.ev rfl) (s.ev rfl) (by first|omega|(simp only[acC,acD,acF];omega)) (j.did hok rfl (GS.Le.refl _) j.holds j.hr rfl)))
  ·exact ay rfl (fun D a w G H hR j=>by(have s:=j.sf;exact ax (s.ev rfl) pd (j.did hok rfl (GS.Le.refl _) j.holds j.hr rfl)))
  ·exact ay rfl (fun D a w G H hR j=>by(have hH:=j.hr;subst H;have s:=(j.sf.know _ _ (j.gotE 10 rfl (hR.was rfl 10 rfl)));exact aO (s.ev rfl) Ct ((j.holds.rowI 0 0 (cs:=[.int .u32 d.seq]) (o:=2) rfl rfl rfl) 0 _ rfl) (j.did hok rfl (GS.Le.refl _) j.holds j.hr rfl)))
  ·exact ay rfl (fun D a w G H hR j=>by(have s:=(j.sf.know _ _ (j.gotE 11 rfl (hR.was rfl 11 rfl)));exact bx (s.ev rfl) vA cy (aU (by omega) (by omega)) (j.did hok rfl (GS.Le.refl _) j.holds j.hr rfl)))
  ·exact ay rfl (fun D a w G H hR j=>by(have s:=(j.sf.know _ _ (j.gotE 12 rfl (hR.was rfl 12 rfl)));exact jl s rfl sT (fH d.seq (by omega) (ht.mono j.le) j.holds) (fun e w' ⟨v,G',he,hG,hh,hv⟩=>⟨v,he,j.did hok rfl hG hh j.hr hv⟩)))
  ·exact ay rfl (fun D a w G H hR j=>by(have s:=((j.sf.know _ _ (j.gotE 9 rfl (hR.was rfl 9 rfl))).know _ _ (j.gotE 13 rfl (hR.was rfl 13 rfl)));exact dt (s.ev rfl) (s.ev rfl) (by first|omega|(simp only[acC,acD,acF];omega)) (j.did hok rfl (GS.Le.refl _) j.holds j.hr rfl)))
  ·exact ay rfl (fun D a w G H hR j=>by(have s:=(j.sf.know _ _ (j.gotE 14 rfl (hR.was rfl 14 rfl)));exact aZ (s.ev rfl) (j.did hok rfl (GS.Le.refl _) j.holds j.hr rfl)))
  have s47:=(j.sf.know _ _ (j.gotE 15 rfl (hall 15 (by decide))))
  have hH:=j.hr
  subst H
  have hle53:=j.le
  have ht:=ht.mono hle53
  have hG51:=(GS.Le.refl _).trans hle53
  have h52:Holds _ _ ([(b39,.cells (dV d) 75 (0,0))]::F):=j.holds
  clear j hall hok
  refine aj ?_
  refine wp_seq ?_
  refine wp_seq ?_
  refine wp_region_lit ?_
  refine ae s47 rfl (fun _ k=>ax (s47.ev rfl) pb k) (fun a54 s55=> ?_)
  refine ae s55 rfl (fun _ k=>ax (s55.ev rfl) pc k) (fun a56 s57=> ?_)
  refine ae s57 rfl (fun _ k=>aO (s57.ev rfl) fi ((h52.rowI 0 0 (cs:=[.int .u8 d.depth]) (o:=3) rfl rfl rfl) 0 _ rfl) k) (fun a58 s59=> ?_)
  refine ae s59 rfl (fun _ k=>bx (s59.ev rfl) du cy (aU (by omega) (by omega)) k) (fun a60 s61=> ?_)
  refine ae s61 rfl (fun _ k=>ss (s61.ev rfl) (s61.ev rfl) (z:=1) (by omega) k) (fun a62 s63=> ?_)
  refine ae s63 rfl (fun _ k=>mj (s63.ev rfl) (s63.ev rfl) vz (m:=1) di rfl (by decide) k) (fun a64 s65=> ?_)
  refine ae s65 rfl (fun _ k=>rJ (s65.ev rfl) eU k) (fun a66 s67=> ?_)
  refine ae s67 rfl (fun _ k=>bd (s67.ev rfl) k) (fun a68 s69=> ?_)
  refine wpList_nil ?_
  refine aj ?_
  refine wp_block ?_
  refine wp_loop_rounds 4 ?_
  refine cv (n:=3) ?_
  refine wp_seq ?_
  refine wp_region_lit ?_
  refine ae s69 rfl (fun _ k=>fm (s69.ev rfl) (s69.ev rfl) k) (fun a70 s71=> ?_)
  refine wpList_nil ?_
  refine aj ?_
  refine wp_seq ?_
  refine nc s71 rfl rfl ?_
  refine wp_skip ?_
  refine aj ?_
  refine wp_seq ?_
  refine wp_block ?_
  refine wp_seq ?_
  refine wp_region_lit ?_
  refine ae s71 rfl (fun _ k=>iX (s71.ev rfl) (s71.ev rfl) eU di (i:=0) rfl (by decide) rfl rfl (m:=4) rfl k) (fun a73 s74=> ?_)
  refine ae s74 rfl (fun _ k=>fE (s74.ev rfl) tc di (cs:=[.int .u8 d.p0.group,.int .u8 d.p0.index]) rfl (h52.rowI 0 0 (cs:=[.int .u8 d.p0.group,.int .u8 d.p0.index]) (o:=4) rfl rfl rfl) k) (fun a75 s76=> ?_)
  refine iU s76 rfl h52 lc (fun a78 w80 b77 s79 h81=> ?_)
  refine fO s79 rfl rfl di rfl h81 (j:=0) rfl rfl rfl (cl:=[.int .u8 d.p0.group,.int .u8 d.p0.index]) (by kernel_rfl) (fun a82 w84 s83 h85=> ?_)
  have h85:Holds _ _ ([(b77,.cells #[.int .u8 d.p0.group,.int .u8 d.p0.index] 72 (0,0))]::[(b39,.cells (dV d) 75 (0,0))]::F):=h85
  refine wpList_nil ?_
  refine aj ?_
  refine wp_region_lit ?_
  refine ae s83 rfl (fun _ k=>bd (s83.ev rfl) k) (fun a86 s87=> ?_)
  refine ae s87 rfl (fun _ k=>ax (s87.ev rfl) iW k) (fun a88 s89=> ?_)
  refine ae s89 rfl (fun _ k=>aO (s89.ev rfl) fi ((h85.rowI 0 0 (cs:=[.int .u8 d.p0.group]) (o:=0) rfl rfl rfl) 0 _ rfl) k) (fun a90 s91=> ?_)
  refine ae s91 rfl (fun _ k=>bx (s91.ev rfl) du cy (aU (by omega) (by omega)) k) (fun a92 s93=> ?_)
  refine ae s93 rfl (fun _ k=>ax (s93.ev rfl) iV k) (fun a94 s95=> ?_)
  refine ae s95 rfl (fun _ k=>aO (s95.ev rfl) fi ((h85.rowI 0 0 (cs:=[.int .u8 d.p0.index]) (o:=1) rfl rfl rfl) 0 _ rfl) k) (fun a96 s97=> ?_)
  refine ae s97 rfl (fun _ k=>bx (s97.ev rfl) du cy (aU (by omega) (by omega)) k) (fun a98 s99=> ?_)
  refine db s99 rfl wO rfl (ip d.p0.group d.p0.index (by omega) (by omega) ht h85) (fun a100 w102 v107 G104 hs108 h103 hv106 s101=> ?_)
  subst hv106
  have ht:=ht.mono hs108
  have hG105:=hG51.trans hs108
  have hL_738460:=cq d.p0.group d.p0.index (by omega) (by omega)
  refine ae s101 rfl (fun _ k=>dt (s101.ev rfl) (s101.ev rfl) (by first|omega|(simp only[acC,acD,acF];omega)) k) (fun a109 s110=> ?_)
  refine ae s110 rfl (fun _ k=>dt (s110.ev rfl) (s110.ev rfl) (by first|omega|(simp only[acC,acD,acF];omega)) k) (fun a111 s112=> ?_)
  refine ae s112 rfl (fun _ k=>aZ (s112.ev rfl) k) (fun a113 s114=> ?_)
  refine wpList_nil ?_
  refine iS ?_
  refine aj ?_
  refine wp_region_lit ?_
  refine ae s114 rfl (fun _ k=>nh (s114.ev rfl) (s114.ev rfl) (z:=1) rfl k) (fun a115 s116=> ?_)
  refine ae s116 rfl (fun _ k=>bd (s116.ev rfl) k) (fun a117 s118=> ?_)
  refine wpList_nil ?_
  refine aj ?_
  refine cv (n:=2) ?_
  refine wp_seq ?_
  refine wp_region_lit ?_
  refine ae s118 rfl (fun _ k=>fm (s118.ev rfl) (s118.ev rfl) k) (fun a119 s120=> ?_)
  refine wpList_nil ?_
  refine aj ?_
  refine wp_seq ?_
  refine rD s120 rfl rfl ?_
  refine wp_exit ?_
  refine eA ?_
  refine eA ?_
  refine oV ?_
  refine aj ?_
  refine wp_seq ?_
  refine wp_region_lit ?_
  refine ae s120 rfl (fun _ k=>bd (s120.ev rfl) k) (fun a122 s123=> ?_)
  refine ae s123 rfl (fun _ k=>aZ (s123.ev rfl) k) (fun a124 s125=> ?_)
  refine wpList_nil ?_
  refine aj ?_
  refine wp_ret ?_
  refine lG s125 rfl rfl ⟨_,_,rfl,hG105,h103.drop.drop,?_⟩
  first|(unfold ah;rw[ol d (by omega)];simp only[acJ,acO,acK,acM,aC,aD,aE,acL];done)|(unfold ah;rw[oi d (by omega) (by omega)];simp only[acJ,acO,acK,acM,aC,aD,aE,acL];done)|(unfold ah;rw[oh d (by omega) (by omega)];simp only[acJ,acO,acK,acM,aC,aD,aE,acL];done)|(unfold ah;rw[og d (by omega)];simp only[acJ,acO,acK,acM,aC,aD,aE,acL];done)
 ·
  refine wp_seq ?_
  refine wp_region_lit ?_
  refine vK s0 rfl rfl h (fun a127 w129 b126 s128 h130=> ?_)
  have h130:Holds _ _ ([(b126,.cells (dV d) 75 (0,0))]::F):=h130
  refine ae s128 rfl (fun _ k=>aZ (s128.ev rfl) k) (fun a131 s132=> ?_)
  refine wpList_nil ?_
  refine aj ?_
  refine wp_seq ?_
  have hok:vP 44 [(1,.pointer (some ⟨b126,0,none⟩)),(2,S [])] [(some 6,Fact.eq (.pointer (some ⟨b126,0,none⟩))),(some 7,Fact.eq (.pointer (some ⟨b126,0,none⟩))),(some 8,Fact.eq (.int .u8 d.client.node)),(some 9,Fact.eq (.int .i64 d.client.node)),(some 10,Fact.eq (.pointer (some ⟨b126,0,none⟩))),(some 11,Fact.eq (.pointer (some ⟨b126,1,none⟩))),(some 12,Fact.eq (.int .u16 d.client.life)),(some 13,Fact.eq (.int .i64 d.client.life)),(some 14,Fact.eq (S (aE d.client.node d.client.life))),(some 15,Fact.eq (S ((aE d.client.node d.client.life)++[47]))),(some 16,Fact.eq (.pointer (some ⟨b126,2,none⟩))),(some 17,Fact.eq (.int .u32 d.seq)),(some 18,Fact.eq (.int .i64 d.seq)),(some 19,Fact.eq (S (Lib.itoa d.seq))),(some 20,Fact.eq (S (((aE d.client.node d.client.life)++[47])++(Lib.itoa d.seq)))),(some 3,Fact.eq (S (((aE d.client.node d.client.life)++[47])++(Lib.itoa d.seq))))] []=true:=rfl
  refine lu (N:=44) (L0:=[(1,.pointer (some ⟨b126,0,none⟩)),(2,S [])]) (X:=[(some 6,Fact.eq (.pointer (some ⟨b126,0,none⟩))),(some 7,Fact.eq (.pointer (some ⟨b126,0,none⟩))),(some 8,Fact.eq (.int .u8 d.client.node)),(some 9,Fact.eq (.int .i64 d.client.node)),(some 10,Fact.eq (.pointer (some ⟨b126,0,none⟩))),(some 11,Fact.eq (.pointer (some ⟨b126,1,none⟩))),(some 12,Fact.eq (.int .u16 d.client.life)),(some 13,Fact.eq (.int .i64 d.client.life)),(some 14,Fact.eq (S (aE d.client.node d.client.life))),(some 15,Fact.eq (S ((aE d.client.node d.client.life)++[47]))),(some 16,Fact.eq (.pointer (some ⟨b126,2,none⟩))),(some 17,Fact.eq (.int .u32 d.seq)),(some 18,Fact.eq (.int .i64 d.seq)),(some 19,Fact.eq (S (Lib.itoa d.seq))),(some 20,Fact.eq (S (((aE d.client.node d.client.life)++[47])++(Lib.itoa d.seq)))),(some 3,Fact.eq (S (((aE d.client.node d.client.life)++[47])++(Lib.itoa d.seq))))]) (O:=[]) (HR:=fun D a _ H=>H=([(b126,.cells (dV d) 75 (0,0))]::F)) mixed rfl h130 rfl (s132.sub (all_cons rfl (all_cons rfl (lA)))) (fun i k t v hi=>by simp at hi) ⟨?_,?_,?_,?_,?_,?_,?_,?_,?_,?_,?_,?_,?_,?_,?_,?_,trivial⟩ (fun D a w G H hall j=> ?_)
  ·exact ay rfl (fun D a w G H hR j=>by(have s:=j.sf;exact ax (s.ev rfl) fx (j.did hok rfl (GS.Le.refl _) j.holds j.hr rfl)))
  ·exact ay rfl (fun D a w G H hR j=>by(have s:=(j.sf.know _ _ (j.gotE 0 rfl (hR.was rfl 0 rfl)));exact ax (s.ev rfl) pf (j.did hok rfl (GS.Le.refl _) j.holds j.hr rfl)))
  ·exact ay rfl (fun D a w G H hR j=>by(have hH:=j.hr;subst H;have s:=(j.sf.know _ _ (j.gotE 1 rfl (hR.was rfl 1 rfl)));exact aO (s.ev rfl) fi ((j.holds.rowI 0 0 (cs:=[.int .u8 d.client.node]) (o:=0) rfl rfl rfl) 0 _ rfl) (j.did hok rfl (GS.Le.refl _) j.holds j.hr rfl)))
  ·exact ay rfl (fun D a w G H hR j=>by(have s:=(j.sf.know _ _ (j.gotE 2 rfl (hR.was rfl 2 rfl)));exact bx (s.ev rfl) du cy (aU (by omega) (by omega)) (j.did hok rfl (GS.Le.refl _) j.holds j.hr rfl)))
  ·exact ay rfl (fun D a w G H hR j=>by(have s:=j.sf;exact ax (s.ev rfl) fx (j.did hok rfl (GS.Le.refl _) j.holds j.hr rfl)))
  ·exact ay rfl (fun D a w G H hR j=>by(have s:=(j.sf.know _ _ (j.gotE 4 rfl (hR.was rfl 4 rfl)));exact ax (s.ev rfl) pe (j.did hok rfl (GS.Le.refl _) j.holds j.hr rfl)))
  ·exact ay rfl (fun D a w G H hR j=>by(have hH:=j.hr;subst H;have s:=(j.sf.know _ _ (j.gotE 5 rfl (hR.was rfl 5 rfl)));exact aO (s.ev rfl) Cu ((j.holds.rowI 0 0 (cs:=[.int .u16 d.client.life]) (o:=1) rfl rfl rfl) 0 _ rfl) (j.did hok rfl (GS.Le.refl _) j.holds j.hr rfl)))
  ·exact ay rfl (fun D a w G H hR j=>by(have s:=(j.sf.know _ _ (j.gotE 6 rfl (hR.was rfl 6 rfl)));exact bx (s.ev rfl) vB cy (aU (by omega) (by omega)) (j.did hok rfl (GS.Le.refl _) j.holds j.hr rfl)))
  ·exact ay rfl (fun D a w G H hR j=>by(have s:=((j.sf.know _ _ (j.gotE 3 rfl (hR.was rfl 3 rfl))).know _ _ (j.gotE 7 rfl (hR.was rfl 7 rfl)));exact jl s rfl wO (ip d.client.node d.client.life (by omega) (by omega) (ht.mono j.le) j.holds) (fun e w' ⟨v,G',he,hG,hh,hv⟩=>⟨v,he,j.did hok rfl hG hh j.hr hv⟩)))
  ·exact ay rfl (fun D a w G H hR j=>by(have s:=(j.sf.know _ _ (j.gotE 8 rfl (hR.was rfl 8 rfl)));exact dt (s.ev rfl) (s.ev rfl) (by first|omega|(simp only[acC,acD,acF];omega)) (j.did hok rfl (GS.Le.refl _) j.holds j.hr rfl)))
  ·exact ay rfl (fun D a w G H hR j=>by(have s:=j.sf;exact ax (s.ev rfl) pd (j.did hok rfl (GS.Le.refl _) j.holds j.hr rfl)))
  ·exact ay rfl (fun D a w G H hR j=>by(have hH:=j.hr;subst H;have s:=(j.sf.know _ _ (j.gotE 10 rfl (hR.was rfl 10 rfl)));exact aO (s.ev rfl) Ct ((j.holds.rowI 0 0 (cs:=[.int .u32 d.seq]) (o:=2) rfl rfl rfl) 0 _ rfl) (j.did hok rfl (GS.Le.refl _) j.holds j.hr rfl)))
  ·exact ay rfl (fun D a w G H hR j=>by(have s:=(j.sf.know _ _ (j.gotE 11 rfl (hR.was rfl 11 rfl)));exact bx (s.ev rfl) vA cy (aU (by omega) (by omega)) (j.did hok rfl (GS.Le.refl _) j.holds j.hr rfl)))
  ·exact ay rfl (fun D a w G H hR j=>by(have s:=(j.sf.know _ _ (j.gotE 12 rfl (hR.was rfl 12 rfl)));exact jl s rfl sT (fH d.seq (by omega) (ht.mono j.le) j.holds) (fun e w' ⟨v,G',he,hG,hh,hv⟩=>⟨v,he,j.did hok rfl hG hh j.hr hv⟩)))
  ·exact ay rfl (fun D a w G H hR j=>by(have s:=((j.sf.know _ _ (j.gotE 9 rfl (hR.was rfl 9 rfl))).know _ _ (j.gotE 13 rfl (hR.was rfl 13 rfl)));exact dt (s.ev rfl) (s.ev rfl) (by first|omega|(simp only[acC,acD,acF];omega)) (j.did hok rfl (GS.Le.refl _) j.holds j.hr rfl)))
  ·exact ay rfl (fun D a w G H hR j=>by(have s:=(j.sf.know _ _ (j.gotE 14 rfl (hR.was rfl 14 rfl)));exact aZ (s.ev rfl) (j.did hok rfl (GS.Le.refl _) j.holds j.hr rfl)))
  have s134:=(j.sf.know _ _ (j.gotE 15 rfl (hall 15 (by decide))))
  have hH:=j.hr
  subst H
  have hle140:=j.le
  have ht:=ht.mono hle140
  have hG138:=(GS.Le.refl _).trans hle140
  have h139:Holds _ _ ([(b126,.cells (dV d) 75 (0,0))]::F):=j.holds
  clear j hall hok
  refine aj ?_
  refine wp_seq ?_
  refine wp_seq ?_
  refine wp_region_lit ?_
  refine ae s134 rfl (fun _ k=>ax (s134.ev rfl) pb k) (fun a141 s142=> ?_)
  refine ae s142 rfl (fun _ k=>ax (s142.ev rfl) pc k) (fun a143 s144=> ?_)
  refine ae s144 rfl (fun _ k=>aO (s144.ev rfl) fi ((h139.rowI 0 0 (cs:=[.int .u8 d.depth]) (o:=3) rfl rfl rfl) 0 _ rfl) k) (fun a145 s146=> ?_)
  refine ae s146 rfl (fun _ k=>bx (s146.ev rfl) du cy (aU (by omega) (by omega)) k) (fun a147 s148=> ?_)
  refine ae s148 rfl (fun _ k=>ss (s148.ev rfl) (s148.ev rfl) (z:=2) (by omega) k) (fun a149 s150=> ?_)
  refine ae s150 rfl (fun _ k=>mj (s150.ev rfl) (s150.ev rfl) vz (m:=2) di rfl (by decide) k) (fun a151 s152=> ?_)
  refine ae s152 rfl (fun _ k=>rJ (s152.ev rfl) eU k) (fun a153 s154=> ?_)
  refine ae s154 rfl (fun _ k=>bd (s154.ev rfl) k) (fun a155 s156=> ?_)
  refine wpList_nil ?_
  refine aj ?_
  refine wp_block ?_
  refine wp_loop_rounds 4 ?_
  refine cv (n:=3) ?_
  refine wp_seq ?_
  refine wp_region_lit ?_
  refine ae s156 rfl (fun _ k=>fm (s156.ev rfl) (s156.ev rfl) k) (fun a157 s158=> ?_)
  refine wpList_nil ?_
  refine aj ?_
  refine wp_seq ?_
  refine nc s158 rfl rfl ?_
  refine wp_skip ?_
  refine aj ?_
  refine wp_seq ?_
  refine wp_block ?_
  refine wp_seq ?_
  refine wp_region_lit ?_
  refine ae s158 rfl (fun _ k=>iX (s158.ev rfl) (s158.ev rfl) eU di (i:=0) rfl (by decide) rfl rfl (m:=4) rfl k) (fun a160 s161=> ?_)
  refine ae s161 rfl (fun _ k=>fE (s161.ev rfl) tc di (cs:=[.int .u8 d.p0.group,.int .u8 d.p0.index]) rfl (h139.rowI 0 0 (cs:=[.int .u8 d.p0.group,.int .u8 d.p0.index]) (o:=4) rfl rfl rfl) k) (fun a162 s163=> ?_)
  refine iU s163 rfl h139 lc (fun a165 w167 b164 s166 h168=> ?_)
  refine fO s166 rfl rfl di rfl h168 (j:=0) rfl rfl rfl (cl:=[.int .u8 d.p0.group,.int .u8 d.p0.index]) (by kernel_rfl) (fun a169 w171 s170 h172=> ?_)
  have h172:Holds _ _ ([(b164,.cells #[.int .u8 d.p0.group,.int .u8 d.p0.index] 72 (0,0))]::[(b126,.cells (dV d) 75 (0,0))]::F):=h172
  refine wpList_nil ?_
  refine aj ?_
  refine wp_region_lit ?_
  refine ae s170 rfl (fun _ k=>bd (s170.ev rfl) k) (fun a173 s174=> ?_)
  refine ae s174 rfl (fun _ k=>ax (s174.ev rfl) iW k) (fun a175 s176=> ?_)
  refine ae s176 rfl (fun _ k=>aO (s176.ev rfl) fi ((h172.rowI 0 0 (cs:=[.int .u8 d.p0.group]) (o:=0) rfl rfl rfl) 0 _ rfl) k) (fun a177 s178=> ?_)
  refine ae s178 rfl (fun _ k=>bx (s178.ev rfl) du cy (aU (by omega) (by omega)) k) (fun a179 s180=> ?_)
  refine ae s180 rfl (fun _ k=>ax (s180.ev rfl) iV k) (fun a181 s182=> ?_)
  refine ae s182 rfl (fun _ k=>aO (s182.ev rfl) fi ((h172.rowI 0 0 (cs:=[.int .u8 d.p0.index]) (o:=1) rfl rfl rfl) 0 _ rfl) k) (fun a183 s184=> ?_)
  refine ae s184 rfl (fun _ k=>bx (s184.ev rfl) du cy (aU (by omega) (by omega)) k) (fun a185 s186=> ?_)
  refine db s186 rfl wO rfl (ip d.p0.group d.p0.index (by omega) (by omega) ht h172) (fun a187 w189 v194 G191 hs195 h190 hv193 s188=> ?_)
  subst hv193
  have ht:=ht.mono hs195
  have hG192:=hG138.trans hs195
  have hL_738460:=cq d.p0.group d.p0.index (by omega) (by omega)
  refine ae s188 rfl (fun _ k=>dt (s188.ev rfl) (s188.ev rfl) (by first|omega|(simp only[acC,acD,acF];omega)) k) (fun a196 s197=> ?_)
  refine ae s197 rfl (fun _ k=>dt (s197.ev rfl) (s197.ev rfl) (by first|omega|(simp only[acC,acD,acF];omega)) k) (fun a198 s199=> ?_)
  refine ae s199 rfl (fun _ k=>aZ (s199.ev rfl) k) (fun a200 s201=> ?_)
  refine wpList_nil ?_
  refine iS ?_
  refine aj ?_
  refine wp_region_lit ?_
  refine ae s201 rfl (fun _ k=>nh (s201.ev rfl) (s201.ev rfl) (z:=1) rfl k) (fun a202 s203=> ?_)
  refine ae s203 rfl (fun _ k=>bd (s203.ev rfl) k) (fun a204 s205=> ?_)
  refine wpList_nil ?_
  refine aj ?_
  refine cv (n:=2) ?_
  refine wp_seq ?_
  refine wp_region_lit ?_
  refine ae s205 rfl (fun _ k=>fm (s205.ev rfl) (s205.ev rfl) k) (fun a206 s207=> ?_)
  refine wpList_nil ?_
  refine aj ?_
  refine wp_seq ?_
  refine nc s207 rfl rfl ?_
  refine wp_skip ?_
  refine aj ?_
  refine wp_seq ?_
  refine wp_block ?_
  refine wp_seq ?_
  refine wp_region_lit ?_
  refine ae s207 rfl (fun _ k=>iX (s207.ev rfl) (s207.ev rfl) eU di (i:=1) rfl (by decide) rfl rfl (m:=6) rfl k) (fun a209 s210=> ?_)
  refine ae s210 rfl (fun _ k=>fE (s210.ev rfl) tc di (cs:=[.int .u8 d.p1.group,.int .u8 d.p1.index]) rfl (h190.rowI 1 0 (cs:=[.int .u8 d.p1.group,.int .u8 d.p1.index]) (o:=6) rfl rfl rfl) k) (fun a211 s212=> ?_)
  refine iU s212 rfl h190 lc (fun a214 w216 b213 s215 h217=> ?_)
  refine fO s215 rfl rfl di rfl h217 (j:=0) rfl rfl rfl (cl:=[.int .u8 d.p1.group,.int .u8 d.p1.index]) (by kernel_rfl) (fun a218 w220 s219 h221=> ?_)
  have h221:Holds _ _ ([(b213,.cells #[.int .u8 d.p1.group,.int .u8 d.p1.index] 72 (0,0))]::[(b164,.cells #[.int .u8 d.p0.group,.int .u8 d.p0.index] 72 (0,0))]::[(b126,.cells (dV d) 75 (0,0))]::F):=h221
  refine wpList_nil ?_
  refine aj ?_
  refine wp_region_lit ?_
  refine ae s219 rfl (fun _ k=>bd (s219.ev rfl) k) (fun a222 s223=> ?_)
  refine ae s223 rfl (fun _ k=>ax (s223.ev rfl) iW k) (fun a224 s225=> ?_)
  refine ae s225 rfl (fun _ k=>aO (s225.ev rfl) fi ((h221.rowI 0 0 (cs:=[.int .u8 d.p1.group]) (o:=0) rfl rfl rfl) 0 _ rfl) k) (fun a226 s227=> ?_)
  refine ae s227 rfl (fun _ k=>bx (s227.ev rfl) du cy (aU (by omega) (by omega)) k) (fun a228 s229=> ?_)
  refine ae s229 rfl (fun _ k=>ax (s229.ev rfl) iV k) (fun a230 s231=> ?_)
  refine ae s231 rfl (fun _ k=>aO (s231.ev rfl) fi ((h221.rowI 0 0 (cs:=[.int .u8 d.p1.index]) (o:=1) rfl rfl rfl) 0 _ rfl) k) (fun a232 s233=> ?_)
  refine ae s233 rfl (fun _ k=>bx (s233.ev rfl) du cy (aU (by omega) (by omega)) k) (fun a234 s235=> ?_)
  refine db s235 rfl wO rfl (ip d.p1.group d.p1.index (by omega) (by omega) ht h221) (fun a236 w238 v243 G240 hs244 h239 hv242 s237=> ?_)
  subst hv242
  have ht:=ht.mono hs244
  have hG241:=hG192.trans hs244
  have hL_960299:=cq d.p1.group d.p1.index (by omega) (by omega)
  refine ae s237 rfl (fun _ k=>dt (s237.ev rfl) (s237.ev rfl) (by first|omega|(simp only[acC,acD,acF];omega)) k) (fun a245 s246=> ?_)
  refine ae s246 rfl (fun _ k=>dt (s246.ev rfl) (s246.ev rfl) (by first|omega|(simp only[acC,acD,acF];omega)) k) (fun a247 s248=> ?_)
  refine ae s248 rfl (fun _ k=>aZ (s248.ev rfl) k) (fun a249 s250=> ?_)
  refine wpList_nil ?_
  refine iS ?_
  refine aj ?_
  refine wp_region_lit ?_
  refine ae s250 rfl (fun _ k=>nh (s250.ev rfl) (s250.ev rfl) (z:=2) rfl k) (fun a251 s252=> ?_)
  refine ae s252 rfl (fun _ k=>bd (s252.ev rfl) k) (fun a253 s254=> ?_)
  refine wpList_nil ?_
  refine aj ?_
  refine cv (n:=1) ?_
  refine wp_seq ?_
  refine wp_region_lit ?_
  refine ae s254 rfl (fun _ k=>fm (s254.ev rfl) (s254.ev rfl) k) (fun a255 s256=> ?_)
  refine wpList_nil ?_
  refine aj ?_
  refine wp_seq ?_
  refine rD s256 rfl rfl ?_
  refine wp_exit ?_
  refine eA ?_
  refine eA ?_
  refine oV ?_
  refine aj ?_
  refine wp_seq ?_
  refine wp_region_lit ?_
  refine ae s256 rfl (fun _ k=>bd (s256.ev rfl) k) (fun a258 s259=> ?_)
  refine ae s259 rfl (fun _ k=>aZ (s259.ev rfl) k) (fun a260 s261=> ?_)
  refine wpList_nil ?_
  refine aj ?_
  refine wp_ret ?_
  refine lG s261 rfl rfl ⟨_,_,rfl,hG241,h239.drop.drop.drop,?_⟩
  first|(unfold ah;rw[ol d (by omega)];simp only[acJ,acO,acK,acM,aC,aD,aE,acL];done)|(unfold ah;rw[oi d (by omega) (by omega)];simp only[acJ,acO,acK,acM,aC,aD,aE,acL];done)|(unfold ah;rw[oh d (by omega) (by omega)];simp only[acJ,acO,acK,acM,aC,aD,aE,acL];done)|(unfold ah;rw[og d (by omega)];simp only[acJ,acO,acK,acM,aC,aD,aE,acL];done)
 ·
  refine wp_seq ?_
  refine wp_region_lit ?_
  refine vK s0 rfl rfl h (fun a263 w265 b262 s264 h266=> ?_)
  have h266:Holds _ _ ([(b262,.cells (dV d) 75 (0,0))]::F):=h266
  refine ae s264 rfl (fun _ k=>aZ (s264.ev rfl) k) (fun a267 s268=> ?_)
  refine wpList_nil ?_
  refine aj ?_
  refine wp_seq ?_
  have hok:vP 44 [(1,.pointer (some ⟨b262,0,none⟩)),(2,S [])] [(some 6,Fact.eq (.pointer (some ⟨b262,0,none⟩))),(some 7,Fact.eq (.pointer (some ⟨b262,0,none⟩))),(some 8,Fact.eq (.int .u8 d.client.node)),(some 9,Fact.eq (.int .i64 d.client.node)),(some 10,Fact.eq (.pointer (some ⟨b262,0,none⟩))),(some 11,Fact.eq (.pointer (some ⟨b262,1,none⟩))),(some 12,Fact.eq (.int .u16 d.client.life)),(some 13,Fact.eq (.int .i64 d.client.life)),(some 14,Fact.eq (S (aE d.client.node d.client.life))),(some 15,Fact.eq (S ((aE d.client.node d.client.life)++[47]))),(some 16,Fact.eq (.pointer (some ⟨b262,2,none⟩))),(some 17,Fact.eq (.int .u32 d.seq)),(some 18,Fact.eq (.int .i64 d.seq)),(some 19,Fact.eq (S (Lib.itoa d.seq))),(some 20,Fact.eq (S (((aE d.client.node d.client.life)++[47])++(Lib.itoa d.seq)))),(some 3,Fact.eq (S (((aE d.client.node d.client.life)++[47])++(Lib.itoa d.seq))))] []=true:=rfl
  refine lu (N:=44) (L0:=[(1,.pointer (some ⟨b262,0,none⟩)),(2,S [])]) (X:=[(some 6,Fact.eq (.pointer (some ⟨b262,0,none⟩))),(some 7,Fact.eq (.pointer (some ⟨b262,0,none⟩))),(some 8,Fact.eq (.int .u8 d.client.node)),(some 9,Fact.eq (.int .i64 d.client.node)),(some 10,Fact.eq (.pointer (some ⟨b262,0,none⟩))),(some 11,Fact.eq (.pointer (some ⟨b262,1,none⟩))),(some 12,Fact.eq (.int .u16 d.client.life)),(some 13,Fact.eq (.int .i64 d.client.life)),(some 14,Fact.eq (S (aE d.client.node d.client.life))),(some 15,Fact.eq (S ((aE d.client.node d.client.life)++[47]))),(some 16,Fact.eq (.pointer (some ⟨b262,2,none⟩))),(some 17,Fact.eq (.int .u32 d.seq)),(some 18,Fact.eq (.int .i64 d.seq)),(some 19,Fact.eq (S (Lib.itoa d.seq))),(some 20,Fact.eq (S (((aE d.client.node d.client.life)++[47])++(Lib.itoa d.seq)))),(some 3,Fact.eq (S (((aE d.client.node d.client.life)++[47])++(Lib.itoa d.seq))))]) (O:=[]) (HR:=fun D a _ H=>H=([(b262,.cells (dV d) 75 (0,0))]::F)) mixed rfl h266 rfl (s268.sub (all_cons rfl (all_cons rfl (lA)))) (fun i k t v hi=>by simp at hi) ⟨?_,?_,?_,?_,?_,?_,?_,?_,?_,?_,?_,?_,?_,?_,?_,?_,trivial⟩ (fun D a w G H hall j=> ?_)
  ·exact ay rfl (fun D a w G H hR j=>by(have s:=j.sf;exact ax (s.ev rfl) fx (j.did hok rfl (GS.Le.refl _) j.holds j.hr rfl)))
  ·exact ay rfl (fun D a w G H hR j=>by(have s:=(j.sf.know _ _ (j.gotE 0 rfl (hR.was rfl 0 rfl)));exact ax (s.ev rfl) pf (j.did hok rfl (GS.Le.refl _) j.holds j.hr rfl)))
  ·exact ay rfl (fun D a w G H hR j=>by(have hH:=j.hr;subst H;have s:=(j.sf.know _ _ (j.gotE 1 rfl (hR.was rfl 1 rfl)));exact aO (s.ev rfl) fi ((j.holds.rowI 0 0 (cs:=[.int .u8 d.client.node]) (o:=0) rfl rfl rfl) 0 _ rfl) (j.did hok rfl (GS.Le.refl _) j.holds j.hr rfl)))
  ·exact ay rfl (fun D a w G H hR j=>by(have s:=(j.sf.know _ _ (j.gotE 2 rfl (hR.was rfl 2 rfl)));exact bx (s.ev rfl) du cy (aU (by omega) (by omega)) (j.did hok rfl (GS.Le.refl _) j.holds j.hr rfl)))
  ·exact ay rfl (fun D a w G H hR j=>by(have s:=j.sf;exact ax (s.ev rfl) fx (j.did hok rfl (GS.Le.refl _) j.holds j.hr rfl)))
  ·exact ay rfl (fun D a w G H hR j=>by(have s:=(j.sf.know _ _ (j.gotE 4 rfl (hR.was rfl 4 rfl)));exact ax (s.ev rfl) pe (j.did hok rfl (GS.Le.refl _) j.holds j.hr rfl)))
  ·exact ay rfl (fun D a w G H hR j=>by(have hH:=j.hr;subst H;have s:=(j.sf.know _ _ (j.gotE 5 rfl (hR.was rfl 5 rfl)));exact aO (s.ev rfl) Cu ((j.holds.rowI 0 0 (cs:=[.int .u16 d.client.life]) (o:=1) rfl rfl rfl) 0 _ rfl) (j.did hok rfl (GS.Le.refl _) j.holds j.hr rfl)))
  ·exact ay rfl (fun D a w G H hR j=>by(have s:=(j.sf.know _ _ (j.gotE 6 rfl (hR.was rfl 6 rfl)));exact bx (s.ev rfl) vB cy (aU (by omega) (by omega)) (j.did hok rfl (GS.Le.refl _) j.holds j.hr rfl)))
  ·exact ay rfl (fun D a w G H hR j=>by(have s:=((j.sf.know _ _ (j.gotE 3 rfl (hR.was rfl 3 rfl))).know _ _ (j.gotE 7 rfl (hR.was rfl 7 rfl)));exact jl s rfl wO (ip d.client.node d.client.life (by omega) (by omega) (ht.mono j.le) j.holds) (fun e w' ⟨v,G',he,hG,hh,hv⟩=>⟨v,he,j.did hok rfl hG hh j.hr hv⟩)))
  ·exact ay rfl (fun D a w G H hR j=>by(have s:=(j.sf.know _ _ (j.gotE 8 rfl (hR.was rfl 8 rfl)));exact dt (s.ev rfl) (s.ev rfl) (by first|omega|(simp only[acC,acD,acF];omega)) (j.did hok rfl (GS.Le.refl _) j.holds j.hr rfl)))
  ·exact ay rfl (fun D a w G H hR j=>by(have s:=j.sf;exact ax (s.ev rfl) pd (j.did hok rfl (GS.Le.refl _) j.holds j.hr rfl)))
  ·exact ay rfl (fun D a w G H hR j=>by(have hH:=j.hr;subst H;have s:=(j.sf.know _ _ (j.gotE 10 rfl (hR.was rfl 10 rfl)));exact aO (s.ev rfl) Ct ((j.holds.rowI 0 0 (cs:=[.int .u32 d.seq]) (o:=2) rfl rfl rfl) 0 _ rfl) (j.did hok rfl (GS.Le.refl _) j.holds j.hr rfl)))
  ·exact ay rfl (fun D a w G H hR j=>by(have s:=(j.sf.know _ _ (j.gotE 11 rfl (hR.was rfl 11 rfl)));exact bx (s.ev rfl) vA cy (aU (by omega) (by omega)) (j.did hok rfl (GS.Le.refl _) j.holds j.hr rfl)))
  ·exact ay rfl (fun D a w G H hR j=>by(have s:=(j.sf.know _ _ (j.gotE 12 rfl (hR.was rfl 12 rfl)));exact jl s rfl sT (fH d.seq (by omega) (ht.mono j.le) j.holds) (fun e w' ⟨v,G',he,hG,hh,hv⟩=>⟨v,he,j.did hok rfl hG hh j.hr hv⟩)))
  ·exact ay rfl (fun D a w G H hR j=>by(have s:=((j.sf.know _ _ (j.gotE 9 rfl (hR.was rfl 9 rfl))).know _ _ (j.gotE 13 rfl (hR.was rfl 13 rfl)));exact dt (s.ev rfl) (s.ev rfl) (by first|omega|(simp only[acC,acD,acF];omega)) (j.did hok rfl (GS.Le.refl _) j.holds j.hr rfl)))
  ·exact ay rfl (fun D a w G H hR j=>by(have s:=(j.sf.know _ _ (j.gotE 14 rfl (hR.was rfl 14 rfl)));exact aZ (s.ev rfl) (j.did hok rfl (GS.Le.refl _) j.holds j.hr rfl)))
  have s270:=(j.sf.know _ _ (j.gotE 15 rfl (hall 15 (by decide))))
  have hH:=j.hr
  subst H
  have hle276:=j.le
  have ht:=ht.mono hle276
  have hG274:=(GS.Le.refl _).trans hle276
  have h275:Holds _ _ ([(b262,.cells (dV d) 75 (0,0))]::F):=j.holds
  clear j hall hok
  refine aj ?_
  refine wp_seq ?_
  refine wp_seq ?_
  refine wp_region_lit ?_
  refine ae s270 rfl (fun _ k=>ax (s270.ev rfl) pb k) (fun a277 s278=> ?_)
  refine ae s278 rfl (fun _ k=>ax (s278.ev rfl) pc k) (fun a279 s280=> ?_)
  refine ae s280 rfl (fun _ k=>aO (s280.ev rfl) fi ((h275.rowI 0 0 (cs:=[.int .u8 d.depth]) (o:=3) rfl rfl rfl) 0 _ rfl) k) (fun a281 s282=> ?_)
  refine ae s282 rfl (fun _ k=>bx (s282.ev rfl) du cy (aU (by omega) (by omega)) k) (fun a283 s284=> ?_)
  refine ae s284 rfl (fun _ k=>ss (s284.ev rfl) (s284.ev rfl) (z:=3) (by omega) k) (fun a285 s286=> ?_)
  refine ae s286 rfl (fun _ k=>mj (s286.ev rfl) (s286.ev rfl) vz (m:=3) di rfl (by decide) k) (fun a287 s288=> ?_)
  refine ae s288 rfl (fun _ k=>rJ (s288.ev rfl) eU k) (fun a289 s290=> ?_)
  refine ae s290 rfl (fun _ k=>bd (s290.ev rfl) k) (fun a291 s292=> ?_)
  refine wpList_nil ?_
  refine aj ?_
  refine wp_block ?_
  refine wp_loop_rounds 4 ?_
  refine cv (n:=3) ?_
  refine wp_seq ?_
  refine wp_region_lit ?_
  refine ae s292 rfl (fun _ k=>fm (s292.ev rfl) (s292.ev rfl) k) (fun a293 s294=> ?_)
  refine wpList_nil ?_
  refine aj ?_
  refine wp_seq ?_
  refine nc s294 rfl rfl ?_
  refine wp_skip ?_
  refine aj ?_
  refine wp_seq ?_
  refine wp_block ?_
  refine wp_seq ?_
  refine wp_region_lit ?_
  refine ae s294 rfl (fun _ k=>iX (s294.ev rfl) (s294.ev rfl) eU di (i:=0) rfl (by decide) rfl rfl (m:=4) rfl k) (fun a296 s297=> ?_)
  refine ae s297 rfl (fun _ k=>fE (s297.ev rfl) tc di (cs:=[.int .u8 d.p0.group,.int .u8 d.p0.index]) rfl (h275.rowI 0 0 (cs:=[.int .u8 d.p0.group,.int .u8 d.p0.index]) (o:=4) rfl rfl rfl) k) (fun a298 s299=> ?_)
  refine iU s299 rfl h275 lc (fun a301 w303 b300 s302 h304=> ?_)
  refine fO s302 rfl rfl di rfl h304 (j:=0) rfl rfl rfl (cl:=[.int .u8 d.p0.group,.int .u8 d.p0.index]) (by kernel_rfl) (fun a305 w307 s306 h308=> ?_)
  have h308:Holds _ _ ([(b300,.cells #[.int .u8 d.p0.group,.int .u8 d.p0.index] 72 (0,0))]::[(b262,.cells (dV d) 75 (0,0))]::F):=h308
  refine wpList_nil ?_
  refine aj ?_
  refine wp_region_lit ?_
  refine ae s306 rfl (fun _ k=>bd (s306.ev rfl) k) (fun a309 s310=> ?_)
  refine ae s310 rfl (fun _ k=>ax (s310.ev rfl) iW k) (fun a311 s312=> ?_)
  refine ae s312 rfl (fun _ k=>aO (s312.ev rfl) fi ((h308.rowI 0 0 (cs:=[.int .u8 d.p0.group]) (o:=0) rfl rfl rfl) 0 _ rfl) k) (fun a313 s314=> ?_)
  refine ae s314 rfl (fun _ k=>bx (s314.ev rfl) du cy (aU (by omega) (by omega)) k) (fun a315 s316=> ?_)
  refine ae s316 rfl (fun _ k=>ax (s316.ev rfl) iV k) (fun a317 s318=> ?_)
  refine ae s318 rfl (fun _ k=>aO (s318.ev rfl) fi ((h308.rowI 0 0 (cs:=[.int .u8 d.p0.index]) (o:=1) rfl rfl rfl) 0 _ rfl) k) (fun a319 s320=> ?_)
  refine ae s320 rfl (fun _ k=>bx (s320.ev rfl) du cy (aU (by omega) (by omega)) k) (fun a321 s322=> ?_)
  refine db s322 rfl wO rfl (ip d.p0.group d.p0.index (by omega) (by omega) ht h308) (fun a323 w325 v330 G327 hs331 h326 hv329 s324=> ?_)
  subst hv329
  have ht:=ht.mono hs331
  have hG328:=hG274.trans hs331
  have hL_738460:=cq d.p0.group d.p0.index (by omega) (by omega)
  refine ae s324 rfl (fun _ k=>dt (s324.ev rfl) (s324.ev rfl) (by first|omega|(simp only[acC,acD,acF];omega)) k) (fun a332 s333=> ?_)
  refine ae s333 rfl (fun _ k=>dt (s333.ev rfl) (s333.ev rfl) (by first|omega|(simp only[acC,acD,acF];omega)) k) (fun a334 s335=> ?_)
  refine ae s335 rfl (fun _ k=>aZ (s335.ev rfl) k) (fun a336 s337=> ?_)
  refine wpList_nil ?_
  refine iS ?_
  refine aj ?_
  refine wp_region_lit ?_
  refine ae s337 rfl (fun _ k=>nh (s337.ev rfl) (s337.ev rfl) (z:=1) rfl k) (fun a338 s339=> ?_)
  refine ae s339 rfl (fun _ k=>bd (s339.ev rfl) k) (fun a340 s341=> ?_)
  refine wpList_nil ?_
  refine aj ?_
  refine cv (n:=2) ?_
  refine wp_seq ?_
  refine wp_region_lit ?_
  refine ae s341 rfl (fun _ k=>fm (s341.ev rfl) (s341.ev rfl) k) (fun a342 s343=> ?_)
  refine wpList_nil ?_
  refine aj ?_
  refine wp_seq ?_
  refine nc s343 rfl rfl ?_
  refine wp_skip ?_
  refine aj ?_
  refine wp_seq ?_
  refine wp_block ?_
  refine wp_seq ?_
  refine wp_region_lit ?_
  refine ae s343 rfl (fun _ k=>iX (s343.ev rfl) (s343.ev rfl) eU di (i:=1) rfl (by decide) rfl rfl (m:=6) rfl k) (fun a345 s346=> ?_)
  refine ae s346 rfl (fun _ k=>fE (s346.ev rfl) tc di (cs:=[.int .u8 d.p1.group,.int .u8 d.p1.index]) rfl (h326.rowI 1 0 (cs:=[.int .u8 d.p1.group,.int .u8 d.p1.index]) (o:=6) rfl rfl rfl) k) (fun a347 s348=> ?_)
  refine iU s348 rfl h326 lc (fun a350 w352 b349 s351 h353=> ?_)
  refine fO s351 rfl rfl di rfl h353 (j:=0) rfl rfl rfl (cl:=[.int .u8 d.p1.group,.int .u8 d.p1.index]) (by kernel_rfl) (fun a354 w356 s355 h357=> ?_)
  have h357:Holds _ _ ([(b349,.cells #[.int .u8 d.p1.group,.int .u8 d.p1.index] 72 (0,0))]::[(b300,.cells #[.int .u8 d.p0.group,.int .u8 d.p0.index] 72 (0,0))]::[(b262,.cells (dV d) 75 (0,0))]::F):=h357
  refine wpList_nil ?_
  refine aj ?_
  refine wp_region_lit ?_
  refine ae s355 rfl (fun _ k=>bd (s355.ev rfl) k) (fun a358 s359=> ?_)
  refine ae s359 rfl (fun _ k=>ax (s359.ev rfl) iW k) (fun a360 s361=> ?_)
  refine ae s361 rfl (fun _ k=>aO (s361.ev rfl) fi ((h357.rowI 0 0 (cs:=[.int .u8 d.p1.group]) (o:=0) rfl rfl rfl) 0 _ rfl) k) (fun a362 s363=> ?_)
  refine ae s363 rfl (fun _ k=>bx (s363.ev rfl) du cy (aU (by omega) (by omega)) k) (fun a364 s365=> ?_)
  refine ae s365 rfl (fun _ k=>ax (s365.ev rfl) iV k) (fun a366 s367=> ?_)
  refine ae s367 rfl (fun _ k=>aO (s367.ev rfl) fi ((h357.rowI 0 0 (cs:=[.int .u8 d.p1.index]) (o:=1) rfl rfl rfl) 0 _ rfl) k) (fun a368 s369=> ?_)
  refine ae s369 rfl (fun _ k=>bx (s369.ev rfl) du cy (aU (by omega) (by omega)) k) (fun a370 s371=> ?_)
  refine db s371 rfl wO rfl (ip d.p1.group d.p1.index (by omega) (by omega) ht h357) (fun a372 w374 v379 G376 hs380 h375 hv378 s373=> ?_)
  subst hv378
  have ht:=ht.mono hs380
  have hG377:=hG328.trans hs380
  have hL_960299:=cq d.p1.group d.p1.index (by omega) (by omega)
  refine ae s373 rfl (fun _ k=>dt (s373.ev rfl) (s373.ev rfl) (by first|omega|(simp only[acC,acD,acF];omega)) k) (fun a381 s382=> ?_)
  refine ae s382 rfl (fun _ k=>dt (s382.ev rfl) (s382.ev rfl) (by first|omega|(simp only[acC,acD,acF];omega)) k) (fun a383 s384=> ?_)
  refine ae s384 rfl (fun _ k=>aZ (s384.ev rfl) k) (fun a385 s386=> ?_)
  refine wpList_nil ?_
  refine iS ?_
  refine aj ?_
  refine wp_region_lit ?_
  refine ae s386 rfl (fun _ k=>nh (s386.ev rfl) (s386.ev rfl) (z:=2) rfl k) (fun a387 s388=> ?_)
  refine ae s388 rfl (fun _ k=>bd (s388.ev rfl) k) (fun a389 s390=> ?_)
  refine wpList_nil ?_
  refine aj ?_
  refine cv (n:=1) ?_
  refine wp_seq ?_
  refine wp_region_lit ?_
  refine ae s390 rfl (fun _ k=>fm (s390.ev rfl) (s390.ev rfl) k) (fun a391 s392=> ?_)
  refine wpList_nil ?_
  refine aj ?_
  refine wp_seq ?_
  refine nc s392 rfl rfl ?_
  refine wp_skip ?_
  refine aj ?_
  refine wp_seq ?_
  refine wp_block ?_
  refine wp_seq ?_
  refine wp_region_lit ?_
  refine ae s392 rfl (fun _ k=>iX (s392.ev rfl) (s392.ev rfl) eU di (i:=2) rfl (by decide) rfl rfl (m:=8) rfl k) (fun a394 s395=> ?_)
  refine ae s395 rfl (fun _ k=>fE (s395.ev rfl) tc di (cs:=[.int .u8 d.p2.group,.int .u8 d.p2.index]) rfl (h375.rowI 2 0 (cs:=[.int .u8 d.p2.group,.int .u8 d.p2.index]) (o:=8) rfl rfl rfl) k) (fun a396 s397=> ?_)
  refine iU s397 rfl h375 lc (fun a399 w401 b398 s400 h402=> ?_)
  refine fO s400 rfl rfl di rfl h402 (j:=0) rfl rfl rfl (cl:=[.int .u8 d.p2.group,.int .u8 d.p2.index]) (by kernel_rfl) (fun a403 w405 s404 h406=> ?_)
  have h406:Holds _ _ ([(b398,.cells #[.int .u8 d.p2.group,.int .u8 d.p2.index] 72 (0,0))]::[(b349,.cells #[.int .u8 d.p1.group,.int .u8 d.p1.index] 72 (0,0))]::[(b300,.cells #[.int .u8 d.p0.group,.int .u8 d.p0.index] 72 (0,0))]::[(b262,.cells (dV d) 75 (0,0))]::F):=h406
  refine wpList_nil ?_
  refine aj ?_
  refine wp_region_lit ?_
  refine ae s404 rfl (fun _ k=>bd (s404.ev rfl) k) (fun a407 s408=> ?_)
  refine ae s408 rfl (fun _ k=>ax (s408.ev rfl) iW k) (fun a409 s410=> ?_)
  refine ae s410 rfl (fun _ k=>aO (s410.ev rfl) fi ((h406.rowI 0 0 (cs:=[.int .u8 d.p2.group]) (o:=0) rfl rfl rfl) 0 _ rfl) k) (fun a411 s412=> ?_)
  refine ae s412 rfl (fun _ k=>bx (s412.ev rfl) du cy (aU (by omega) (by omega)) k) (fun a413 s414=> ?_)
  refine ae s414 rfl (fun _ k=>ax (s414.ev rfl) iV k) (fun a415 s416=> ?_)
  refine ae s416 rfl (fun _ k=>aO (s416.ev rfl) fi ((h406.rowI 0 0 (cs:=[.int .u8 d.p2.index]) (o:=1) rfl rfl rfl) 0 _ rfl) k) (fun a417 s418=> ?_)
  refine ae s418 rfl (fun _ k=>bx (s418.ev rfl) du cy (aU (by omega) (by omega)) k) (fun a419 s420=> ?_)
  refine db s420 rfl wO rfl (ip d.p2.group d.p2.index (by omega) (by omega) ht h406) (fun a421 w423 v428 G425 hs429 h424 hv427 s422=> ?_)
  subst hv427
  have ht:=ht.mono hs429
  have hG426:=hG377.trans hs429
  have hL_726770:=cq d.p2.group d.p2.index (by omega) (by omega)
  refine ae s422 rfl (fun _ k=>dt (s422.ev rfl) (s422.ev rfl) (by first|omega|(simp only[acC,acD,acF];omega)) k) (fun a430 s431=> ?_)
  refine ae s431 rfl (fun _ k=>dt (s431.ev rfl) (s431.ev rfl) (by first|omega|(simp only[acC,acD,acF];omega)) k) (fun a432 s433=> ?_)
  refine ae s433 rfl (fun _ k=>aZ (s433.ev rfl) k) (fun a434 s435=> ?_)
  refine wpList_nil ?_
  refine iS ?_
  refine aj ?_
  refine wp_region_lit ?_
  refine ae s435 rfl (fun _ k=>nh (s435.ev rfl) (s435.ev rfl) (z:=3) rfl k) (fun a436 s437=> ?_)
  refine ae s437 rfl (fun _ k=>bd (s437.ev rfl) k) (fun a438 s439=> ?_)
  refine wpList_nil ?_
  refine aj ?_
  refine cv (n:=0) ?_
  refine wp_seq ?_
  refine wp_region_lit ?_
  refine ae s439 rfl (fun _ k=>fm (s439.ev rfl) (s439.ev rfl) k) (fun a440 s441=> ?_)
  refine wpList_nil ?_
  refine aj ?_
  refine wp_seq ?_
  refine rD s441 rfl rfl ?_
  refine wp_exit ?_
  refine eA ?_
  refine eA ?_
  refine oV ?_
  refine aj ?_
  refine wp_seq ?_
  refine wp_region_lit ?_
  refine ae s441 rfl (fun _ k=>bd (s441.ev rfl) k) (fun a443 s444=> ?_)
  refine ae s444 rfl (fun _ k=>aZ (s444.ev rfl) k) (fun a445 s446=> ?_)
  refine wpList_nil ?_
  refine aj ?_
  refine wp_ret ?_
  refine lG s446 rfl rfl ⟨_,_,rfl,hG426,h424.drop.drop.drop.drop,?_⟩
  first|(unfold ah;rw[ol d (by omega)];simp only[acJ,acO,acK,acM,aC,aD,aE,acL];done)|(unfold ah;rw[oi d (by omega) (by omega)];simp only[acJ,acO,acK,acM,aC,aD,aE,acL];done)|(unfold ah;rw[oh d (by omega) (by omega)];simp only[acJ,acO,acK,acM,aC,aD,aE,acL];done)|(unfold ah;rw[og d (by omega)];simp only[acJ,acO,acK,acM,aC,aD,aE,acL];done)
end Go.Proofs.YtdangmomddpegaaGreatDoor
namespace Go.Sy
open Go Go.RowKit
open Go.Eng hiding aA
noncomputable def Ib:dC:=fun us _ _ K=>match us with
 |[.agg [a,b,c,d,e,f,g,h,i,j]]=>zA 1 a fun a=>zA 2 b fun b=>zA 3 c fun c=>zA 1 d fun d=>zA 1 e fun e=>zA 1 f fun f=>zA 1 g fun g=>zA 1 h fun h=>zA 1 i fun i=>zA 1 j fun j=>
  ac (au (ID.ok ⟨⟨a,b⟩,c,d,⟨e,f⟩,⟨g,h⟩,⟨i,j⟩⟩)) (K (.sy (.str (ah ⟨⟨a,b⟩,c,d,⟨e,f⟩,⟨g,h⟩,⟨i,j⟩⟩))) .leaf 0)
 |_=>false
theorem Pc {P:Program} {f:Nat} (hI:∀(d:ID) (G:GS) (w:World) (F:List aH),d.ok→Tied G.M→Holds G w F→Calls P f #[.agg #[.int .u8 d.client.node,.int .u16 d.client.life,.int .u32 d.seq,.int .u8 d.depth,.int .u8 d.p0.group,.int .u8 d.p0.index,.int .u8 d.p1.group,.int .u8 d.p1.index,.int .u8 d.p2.group,.int .u8 d.p2.index]] w (Ret G F fun _ v=>v=S (ah d))):cY P f 0 Ib:=by
 intro us xs E ρ G F M nx w K R hE hs hd hk hr
 unfold Ib at hk
 split at hk
 case h_2=>cases hk
 rename_i a b c d e f' g h i j
 obtain⟨x,ys,h1,h2,rfl⟩:=bu hd
 obtain rfl:ys=[]:=by simpa[aR] using h2.symm
 obtain⟨za,ha,hk⟩:=mZ (E:=E) (ρ:=ρ) hk
 obtain⟨zb,hb,hk⟩:=mZ (E:=E) (ρ:=ρ) hk
 obtain⟨zc,hc,hk⟩:=mZ (E:=E) (ρ:=ρ) hk
 obtain⟨zd,hd',hk⟩:=mZ (E:=E) (ρ:=ρ) hk
 obtain⟨ze,he,hk⟩:=mZ (E:=E) (ρ:=ρ) hk
 obtain⟨zf,hf,hk⟩:=mZ (E:=E) (ρ:=ρ) hk
 obtain⟨zg,hg,hk⟩:=mZ (E:=E) (ρ:=ρ) hk
 obtain⟨zh,hh',hk⟩:=mZ (E:=E) (ρ:=ρ) hk
 obtain⟨zi,hi,hk⟩:=mZ (E:=E) (ρ:=ρ) hk
 obtain⟨zj,hj,hk⟩:=mZ (E:=E) (ρ:=ρ) hk
 obtain⟨hok,hk⟩:=aa hk
 unfold den at h1
 rcases q:aR E ρ [a,b,c,d,e,f',g,h,i,j] with _|cs
 ·rw[q]at h1;cases h1
 rw[q]at h1
 obtain rfl:=Option.some.inj h1
 obtain⟨x0,y0,p0,q0,rfl⟩:=bu q
 obtain⟨x1,y1,p1,q1,rfl⟩:=bu q0
 obtain⟨x2,y2,p2,q2,rfl⟩:=bu q1
 obtain⟨x3,y3,p3,q3,rfl⟩:=bu q2
 obtain⟨x4,y4,p4,q4,rfl⟩:=bu q3
 obtain⟨x5,y5,p5,q5,rfl⟩:=bu q4
 obtain⟨x6,y6,p6,q6,rfl⟩:=bu q5
 obtain⟨x7,y7,p7,q7,rfl⟩:=bu q6
 obtain⟨x8,y8,p8,q8,rfl⟩:=bu q7
 obtain⟨x9,y9,p9,q9,rfl⟩:=bu q8
 obtain rfl:y9=[]:=by simpa[aR] using q9.symm
 obtain rfl:=ha x0 p0
 obtain rfl:=hb x1 p1
 obtain rfl:=hc x2 p2
 obtain rfl:=hd' x3 p3
 obtain rfl:=he x4 p4
 obtain rfl:=hf x5 p5
 obtain rfl:=hg x6 p6
 obtain rfl:=hh' x7 p7
 obtain rfl:=hi x8 p8
 obtain rfl:=hj x9 p9
 obtain⟨c,hh,_,_⟩:=hs.ex
 exact Dt hE hs (hI _ {G with M:=E.M} w F hok hE.2 hh.drop) hk hr
end Go.Sy
namespace Go.Proofs.YtdangmomddpegaaGreatDoor
open Go Go.RowKit Go.Eng Go.Sy
theorem aat {G:GS} (t:Tied G.M):Jj G:=Tied.gvar Qf t
theorem xV:cY Tryz.prog 70 0 (Bb 0 Lib.itoa):=Ix fun z G w F hz t h=>Em z hz h
theorem BK:cY Tryz.prog 35 0 (Bb 0 Lib.itoa):=Ix fun z G w F hz t h=>Vh z hz h
theorem xS:cY Tryz.prog 39 0 Ib:=Pc fun d G w F hd t h=>SW d hd (aat t) h
theorem uN:cY Tryz.prog 68 0 Ib:=Pc fun d G w F hd t h=>Rv d hd (aat t) h
end Go.Proofs.YtdangmomddpegaaGreatDoor
namespace Go.Proofs.Tryz
open Go Go.RowKit Go.Eng Go.Sy
set_option maxRecDepth 100000
def p_ (i d:Nat) (x:XO):XSt:=.p i (some d) none x
def aK (i d t:Nat) (b:Bool) (x:XO):XSt:=.p i (some d) (some (t,b)) x
def r_ (i d:Nat) (x:XO):XSt:=.r i (some d) none x
def bU (i d t:Nat) (b:Bool) (x:XO):XSt:=.r i (some d) (some (t,b)) x
def e_ (i d:Nat) (x:XO):XSt:=.e i (some d) none x
def cA (i:Nat) (x:XO):XSt:=.e i none none x
def c_ (i d f:Nat) (xs:List XP):XSt:=.c i (some d) none f xs
def qf (i d t:Nat) (b:Bool) (f:Nat) (xs:List XP):XSt:=.c i (some d) (some (t,b)) f xs
def a_ (i d:Nat) (x:XO):XSt:=.a i d none x
def PM (i d t:Nat) (b:Bool) (x:XO):XSt:=.a i d (some (t,b)) x
def m_ (n:Nat):XO:=.mv (.t n)
def n_ (n:Nat):XO:=.nck (.t n)
def f_ (k n:Nat):XO:=.fa k (.t n)
def l_ (n:Nat):XO:=.ld false 1 (.t n)
def k_ (n:Nat):XO:=.len 1 (.t n)
def i_ (n:Nat):XP:=.c (.int 0 (.ofNat n))
def o_ (n:Nat):AV:=.int 0 (.ofNat n)
def g_ (n:Nat) (l:List XSt):XC:=.reg false n (.leaf l)
def h_ (n:Nat) (l:List XSt):XC:=.reg true n (.leaf l)
def bP (f:Nat) (x:XF):Prop:=bT Tryz.prog f x=true∧plain (mF x)=true
def tl6:XF:=.mk 3 (.one 0) (.seq (g_ 1 [p_ 0 0 (.mv (.c .nilP))]) (.seq (g_ 3 [p_ 0 1 (.bld [.nilM,.nilS,.nilM,.nilS,.nilM,.nilS,.nilM,.nilS,.nilS,.nilS,.nilS,.nilS,(o_ 0),(.bool false)] [(13,1)] [(.c (.bool true))]),e_ 1 2 (.box 97 (.t 1)),p_ 2 0 (m_ 2)]) .ret))
theorem ab2:bP 6 tl6:=⟨by kernel_rfl,by kernel_rfl⟩
def aar:XF:=.mk 78 (.one 2) (.seq (g_ 1 [p_ 0 2 (.mv (.c (.str [])))]) (.seq (g_ 2 [e_ 0 12 .mkm,p_ 1 3 (m_ 12)]) (.seq (.seq (g_ 4 [p_ 0 13 (m_ 0),c_ 1 14 37 [.t 13],p_ 2 15 (k_ 14),p_ 3 16 (.mv (i_ 0))]) (.block 2 (.loop [0,2,3,5,6,8,9,10,11,14,15,16,17,18,19,20,21,22,23,24,25,26,27,28,29,30,31,32,33,34,35,36,37,38,39,40,41,42,43,44,45,46,47,48,49,50,51,52,53,54,55,56,57,58,59,60,61,62,63,64,65,66,67,68,69,70,71,72,73,75,76,77] (.seq (g_ 1 [p_ 0 17 (.bin 3 0 (.t 16) (.t 15))]) (.seq (.cond (.t 17) .skip (.exit 2)) (.seq (.block 3 (.seq (g_ 4 [p_ 0 18 (.ixs 17 (.t 14) (.t 16)),r_ 1 19 (.ld true 17 (.t 18)),e_ 2 5 (.al 103 [(.int 1 (.ofNat 0)),(.int 2 (.ofNat 0)),(.int 3 (.ofNat 0)),(.int 1 (.ofNat 0)),(.int 1 (.ofNat 0)),(.int 1 (.ofNat 0)),(.int 1 (.ofNat 0)),(.int 1 (.ofNat 0)),(.int 1 (.ofNat 0)),(.int 1 (.ofNat 0)),(.int 1 (.ofNat 0)),(o_ 0),(o_ 0),(o_ 0),(o_ 0),(.int 1 (.ofNat 0)),(.str [])]),cA 3 (.st 17 (.t 5) (.t 19))]) (g_ 5 [p_ 0 20 (m_ 3),p_ 1 21 (f_ 0 5),r_ 2 22 (.ld true 10 (.t 21)),r_ 3 23 (.ld true 17 (.t 5)),cA 4 (.mu 4 (.st [(0,2,true,(.st [(0,1,false,.int),(1,1,false,.int)])),(2,1,false,.int),(3,1,false,.int),(4,6,true,(.ar [0,2,4] 2 true (.st [(0,1,false,.int),(1,1,false,.int)])))]) (.t 20) (.t 22) (.t 23))]))) (g_ 2 [p_ 0 24 (.bin 0 0 (.t 16) (i_ 1)),p_ 1 16 (m_ 24)]))))))) (.seq (g_ 1 [e_ 0 6 (.al 131 [.nilP,.nilS])]) (.seq (.seq (g_ 4 [p_ 0 25 (m_ 0),c_ 1 26 38 [.t 25],p_ 2 27 (k_ 26),p_ 3 28 (.mv (i_ 0))]) (.block 4 (.loop [2,3,6,8,9,10,11,26,27,28,29,30,31,32,33,34,35,36,37,38,39,40,41,42,43,44,45,46,47,48,49,50,51,52,53,54,55,56,57,58,59,60,61,62,63,64,65,66,67,68,69,70,71,72,73,75,76,77] (.seq (g_ 1 [p_ 0 29 (.bin 3 0 (.t 28) (.t 27))]) (.seq (.cond (.t 29) .skip (.exit 4)) (.seq (.block 5 (.seq (g_ 4 [p_ 0 30 (.ixs 14 (.t 26) (.t 28)),r_ 1 31 (.ld true 14 (.t 30)),e_ 2 8 (.al 78 [(.int 1 (.ofNat 0)),(.int 2 (.ofNat 0)),(.int 3 (.ofNat 0)),(.int 1 (.ofNat 0)),(.int 1 (.ofNat 0)),(.int 1 (.ofNat 0)),(.int 1 (.ofNat 0)),(.int 1 (.ofNat 0)),(.int 1 (.ofNat 0)),(.int 1 (.ofNat 0)),(.int 1 (.ofNat 0)),(o_ 0),(o_ 0),.nilS]),cA 3 (.st 14 (.t 8) (.t 31))]) (.seq (.reg true 12 (.split 2 5 (.leaf [p_ 0 32 (f_ 0 8),r_ 1 33 (.ld true 10 (.t 32)),p_ 3 35 (f_ 11 8),r_ 4 36 (l_ 35),p_ 7 39 (f_ 12 8),r_ 8 40 (l_ 39),c_ 2 34 39 [.t 33],a_ 4 36 (l_ 35),a_ 8 40 (l_ 39),e_ 5 37 (.bsl 9 1 3 [(.str []),(.str []),(.str [])] [(0,1),(1,1),(2,1)] [(.c (.str [102,105,114,115,116])),(.c (.str [109,97,106,111,114,105,116,121])),(.c (.str [97,108,108]))]),a_ 4 36 (l_ 35),a_ 8 40 (l_ 39),c_ 6 38 40 [(.t 36),(.t 37)],a_ 8 40 (l_ 39),c_ 9 41 32 [.t 40],e_ 10 42 (.bsl 9 1 4 [(.str []),(.str []),(.str []),(.str [])] [(0,1),(1,1),(2,1),(3,1)] [(.c (.str [99,97,108,108])),(.t 34),(.t 38),(.t 41)]),p_ 11 9 (m_ 42)]) (.leaf [p_ 0 32 (f_ 0 8),r_ 1 33 (.ld true 10 (.t 32)),p_ 3 35 (f_ 11 8),r_ 4 36 (l_ 35),p_ 7 39 (f_ 12 8),r_ 8 40 (l_ 39),e_ 5 37 (.bsl 9 1 3 [(.str []),(.str []),(.str [])] [(0,1),(1,1),(2,1)] [(.c (.str [102,105,114,115,116])),(.c (.str [109,97,106,111,114,105,116,121])),(.c (.str [97,108,108]))]),a_ 1 33 (.ld true 10 (.t 32)),a_ 4 36 (l_ 35),a_ 8 40 (l_ 39),c_ 2 34 39 [.t 33],a_ 4 36 (l_ 35),a_ 8 40 (l_ 39),c_ 6 38 40 [(.t 36),(.t 37)],a_ 8 40 (l_ 39),c_ 9 41 32 [.t 40],e_ 10 42 (.bsl 9 1 4 [(.str []),(.str []),(.str []),(.str [])] [(0,1),(1,1),(2,1),(3,1)] [(.c (.str [99,97,108,108])),(.t 34),(.t 38),(.t 41)]),p_ 11 9 (m_ 42)]))) (.seq (g_ 10 [p_ 0 44 (m_ 3),p_ 1 45 (f_ 0 8),r_ 2 46 (.ld true 10 (.t 45)),r_ 3 47 (.lk 4 (.st [(0,2,true,(.st [(0,1,false,.int),(1,1,false,.int)])),(2,1,false,.int),(3,1,false,.int),(4,6,true,(.ar [0,2,4] 2 true (.st [(0,1,false,.int),(1,1,false,.int)])))]) (.agg [(.int 1 (.ofNat 0)),(.int 2 (.ofNat 0)),(.int 3 (.ofNat 0)),(.int 1 (.ofNat 0)),(.int 1 (.ofNat 0)),(.int 1 (.ofNat 0)),(.int 1 (.ofNat 0)),(.int 1 (.ofNat 0)),(.int 1 (.ofNat 0)),(.int 1 (.ofNat 0)),(.int 1 (.ofNat 0)),(o_ 0),(o_ 0),(o_ 0),(o_ 0),(.int 1 (.ofNat 0)),(.str [])]) true (.t 44) (.t 46)),p_ 4 43 (m_ 47),p_ 5 48 (.ext 0 (.t 43)),p_ 6 49 (.ext 1 (.t 43)),e_ 7 10 (.al 103 [(.int 1 (.ofNat 0)),(.int 2 (.ofNat 0)),(.int 3 (.ofNat 0)),(.int 1 (.ofNat 0)),(.int 1 (.ofNat 0)),(.int 1 (.ofNat 0)),(.int 1 (.ofNat 0)),(.int 1 (.ofNat 0)),(.int 1 (.ofNat 0)),(.int 1 (.ofNat 0)),(.int 1 (.ofNat 0)),(o_ 0),(o_ 0),(o_ 0),(o_ 0),(.int 1 (.ofNat 0)),(.str [])]),cA 8 (.st 17 (.t 10) (.t 48)),p_ 9 11 (m_ 49)]) (.seq (.block 6 (.seq (g_ 3 [p_ 0 68 (m_ 11),p_ 1 69 (.un 0 (.t 68)),p_ 2 67 (m_ 69)]) (.cond (.t 67) (g_ 4 [p_ 0 70 (m_ 9),e_ 1 71 (.bsl 9 1 1 [(.str [])] [(0,1)] [(.c (.str [111,112,101,110]))]),e_ 2 72 (.app 9 1 16 (.t 70) (.t 71)),p_ 3 9 (m_ 72)]) (.seq (h_ 10 [p_ 0 50 (m_ 9),p_ 1 51 (f_ 13 10),r_ 2 52 (l_ 51),p_ 4 54 (f_ 14 10),r_ 5 55 (l_ 54),c_ 3 53 32 [.t 52],a_ 5 55 (l_ 54),c_ 6 56 32 [.t 55],e_ 7 57 (.bsl 9 1 2 [(.str []),(.str [])] [(0,1),(1,1)] [(.t 53),(.t 56)]),e_ 8 58 (.app 9 1 16 (.t 50) (.t 57)),p_ 9 9 (m_ 58)]) (.seq (g_ 3 [p_ 0 59 (f_ 14 10),r_ 1 60 (l_ 59),p_ 2 61 (.bin 3 4 (.t 60) (i_ 0))]) (.cond (.t 61) (g_ 6 [p_ 0 62 (m_ 9),p_ 1 63 (f_ 15 10),r_ 2 64 (.ld true 2 (.t 63)),c_ 3 65 41 [.t 64],e_ 4 66 (.app 9 1 16 (.t 62) (.t 65)),p_ 5 9 (m_ 66)]) .skip)))))) (g_ 2 [p_ 0 73 (m_ 9),c_ 1 74 31 [(.t 6),(.t 73)]])))))) (g_ 2 [p_ 0 75 (.bin 0 0 (.t 28) (i_ 1)),p_ 1 28 (m_ 75)]))))))) (.seq (g_ 3 [p_ 0 76 (f_ 0 6),c_ 1 77 34 [.t 76],p_ 2 2 (m_ 77)]) .ret))))))
theorem aaq:bP 11 aar:=⟨by kernel_rfl,by kernel_rfl⟩
def aap:XF:=.mk 21 (.one 4) (.seq (g_ 2 [e_ 0 3 (.box 78 (.t 1)),p_ 1 4 (.mv (.c (.bool false)))]) (.seq (g_ 5 [p_ 0 5 (f_ 13 3),r_ 1 6 (l_ 5),c_ 2 7 45 [.t 6],p_ 3 8 (f_ 13 3),cA 4 (.st 1 (.t 8) (.t 7))]) (.seq (h_ 13 [p_ 0 9 (m_ 0),c_ 1 10 46 [.t 9],p_ 2 11 (.un 0 (.t 10)),p_ 3 12 (m_ 11),aK 4 13 12 true (m_ 0),aK 5 14 12 true (n_ 13),aK 6 15 12 true (f_ 0 14),aK 7 16 12 true (f_ 0 3),bU 8 17 12 true (.ld true 10 (.t 16)),bU 9 18 12 true (.ld true 14 (.t 3)),qf 10 19 12 true 47 [(.t 15),(.t 17),(.t 18)],p_ 11 20 (.pick (.t 12) (.t 19) (.c (.bool false))),p_ 12 4 (m_ 20)]) .ret)))
theorem aao:bP 15 aap:=⟨by kernel_rfl,by kernel_rfl⟩
def aan:XF:=.mk 16 (.cell 2 true 14) (.seq (g_ 2 [e_ 0 1 (.box 48 (.t 0)),e_ 1 2 (.al 78 [(.int 1 (.ofNat 0)),(.int 2 (.ofNat 0)),(.int 3 (.ofNat 0)),(.int 1 (.ofNat 0)),(.int 1 (.ofNat 0)),(.int 1 (.ofNat 0)),(.int 1 (.ofNat 0)),(.int 1 (.ofNat 0)),(.int 1 (.ofNat 0)),(.int 1 (.ofNat 0)),(.int 1 (.ofNat 0)),(o_ 0),(o_ 0),.nilS])]) (.seq (h_ 14 [p_ 0 3 (f_ 0 1),r_ 1 4 (.ld true 10 (.t 3)),p_ 3 6 (f_ 10 1),r_ 4 7 (l_ 6),p_ 5 8 (f_ 11 1),r_ 6 9 (l_ 8),p_ 7 10 (f_ 12 1),r_ 8 11 (l_ 10),p_ 9 12 (f_ 13 1),r_ 10 13 (l_ 12),c_ 2 5 48 [.t 4],a_ 4 7 (l_ 6),a_ 6 9 (l_ 8),a_ 8 11 (l_ 10),a_ 10 13 (l_ 12),c_ 11 14 49 [.t 13],a_ 4 7 (l_ 6),a_ 6 9 (l_ 8),a_ 8 11 (l_ 10),p_ 12 15 (.bld [(.int 1 (.ofNat 0)),(.int 2 (.ofNat 0)),(.int 3 (.ofNat 0)),(.int 1 (.ofNat 0)),(.int 1 (.ofNat 0)),(.int 1 (.ofNat 0)),(.int 1 (.ofNat 0)),(.int 1 (.ofNat 0)),(.int 1 (.ofNat 0)),(.int 1 (.ofNat 0)),(.int 1 (.ofNat 0)),(o_ 0),(o_ 0),.nilS] [(0,10),(10,1),(11,1),(12,1),(13,1)] [(.t 5),(.t 7),(.t 9),(.t 11),(.t 14)]),cA 13 (.st 14 (.t 2) (.t 15))]) .ret))
theorem aam:bP 16 aan:=⟨by kernel_rfl,by kernel_rfl⟩
def aal:XF:=.mk 20 (.cell 2 true 17) (.seq (g_ 2 [e_ 0 1 (.box 52 (.t 0)),e_ 1 2 (.al 103 [(.int 1 (.ofNat 0)),(.int 2 (.ofNat 0)),(.int 3 (.ofNat 0)),(.int 1 (.ofNat 0)),(.int 1 (.ofNat 0)),(.int 1 (.ofNat 0)),(.int 1 (.ofNat 0)),(.int 1 (.ofNat 0)),(.int 1 (.ofNat 0)),(.int 1 (.ofNat 0)),(.int 1 (.ofNat 0)),(o_ 0),(o_ 0),(o_ 0),(o_ 0),(.int 1 (.ofNat 0)),(.str [])])]) (.seq (h_ 18 [p_ 0 3 (f_ 0 1),r_ 1 4 (.ld true 10 (.t 3)),p_ 3 6 (f_ 10 1),r_ 4 7 (l_ 6),p_ 5 8 (f_ 11 1),r_ 6 9 (l_ 8),p_ 7 10 (f_ 12 1),r_ 8 11 (l_ 10),p_ 9 12 (f_ 13 1),r_ 10 13 (l_ 12),p_ 11 14 (f_ 14 1),r_ 12 15 (l_ 14),p_ 13 16 (f_ 15 1),r_ 14 17 (.ld true 2 (.t 16)),c_ 2 5 48 [.t 4],a_ 4 7 (l_ 6),a_ 6 9 (l_ 8),a_ 8 11 (l_ 10),a_ 10 13 (l_ 12),a_ 12 15 (l_ 14),a_ 14 17 (.ld true 2 (.t 16)),c_ 15 18 51 [.t 17],a_ 4 7 (l_ 6),a_ 6 9 (l_ 8),a_ 8 11 (l_ 10),a_ 10 13 (l_ 12),a_ 12 15 (l_ 14),p_ 16 19 (.bld [(.int 1 (.ofNat 0)),(.int 2 (.ofNat 0)),(.int 3 (.ofNat 0)),(.int 1 (.ofNat 0)),(.int 1 (.ofNat 0)),(.int 1 (.ofNat 0)),(.int 1 (.ofNat 0)),(.int 1 (.ofNat 0)),(.int 1 (.ofNat 0)),(.int 1 (.ofNat 0)),(.int 1 (.ofNat 0)),(o_ 0),(o_ 0),(o_ 0),(o_ 0),(.int 1 (.ofNat 0)),(.str [])] [(0,10),(10,1),(11,1),(12,1),(13,1),(14,1),(15,2)] [(.t 5),(.t 7),(.t 9),(.t 11),(.t 13),(.t 15),(.t 18)]),cA 17 (.st 17 (.t 2) (.t 19))]) .ret))
theorem aak:bP 18 aal:=⟨by kernel_rfl,by kernel_rfl⟩
def aaj:XF:=.mk 23 (.cell 2 true 18) (.seq (g_ 2 [e_ 0 1 (.box 62 (.t 0)),e_ 1 2 (.al 108 [(.int 1 (.ofNat 0)),(.int 1 (.ofNat 0)),(.int 2 (.ofNat 0)),(.int 3 (.ofNat 0)),(.int 1 (.ofNat 0)),(.int 1 (.ofNat 0)),(.int 1 (.ofNat 0)),(.int 1 (.ofNat 0)),(.int 1 (.ofNat 0)),(.int 1 (.ofNat 0)),(.int 1 (.ofNat 0)),(.int 3 (.ofNat 0)),.nilS,(.int 1 (.ofNat 0)),(.str []),.nilS,(.int 1 (.ofNat 0)),(.int 2 (.ofNat 0))])]) (.seq (h_ 21 [p_ 0 3 (f_ 0 1),r_ 1 4 (l_ 3),p_ 2 5 (f_ 1 1),r_ 3 6 (.ld true 10 (.t 5)),p_ 5 8 (f_ 11 1),r_ 6 9 (l_ 8),p_ 7 10 (f_ 12 1),r_ 8 11 (l_ 10),p_ 10 13 (f_ 13 1),r_ 11 14 (.ld true 2 (.t 13)),p_ 13 16 (f_ 15 1),r_ 14 17 (l_ 16),p_ 16 19 (f_ 16 1),r_ 17 20 (.ld true 2 (.t 19)),c_ 4 7 48 [.t 6],a_ 1 4 (l_ 3),a_ 6 9 (l_ 8),a_ 8 11 (l_ 10),a_ 11 14 (.ld true 2 (.t 13)),a_ 14 17 (l_ 16),a_ 17 20 (.ld true 2 (.t 19)),c_ 9 12 49 [.t 11],a_ 1 4 (l_ 3),a_ 6 9 (l_ 8),a_ 11 14 (.ld true 2 (.t 13)),a_ 14 17 (l_ 16),a_ 17 20 (.ld true 2 (.t 19)),c_ 12 15 51 [.t 14],a_ 1 4 (l_ 3),a_ 6 9 (l_ 8),a_ 14 17 (l_ 16),a_ 17 20 (.ld true 2 (.t 19)),c_ 15 18 54 [.t 17],a_ 1 4 (l_ 3),a_ 6 9 (l_ 8),a_ 17 20 (.ld true 2 (.t 19)),c_ 18 21 55 [.t 20],a_ 1 4 (l_ 3),a_ 6 9 (l_ 8),p_ 19 22 (.bld [(.int 1 (.ofNat 0)),(.int 1 (.ofNat 0)),(.int 2 (.ofNat 0)),(.int 3 (.ofNat 0)),(.int 1 (.ofNat 0)),(.int 1 (.ofNat 0)),(.int 1 (.ofNat 0)),(.int 1 (.ofNat 0)),(.int 1 (.ofNat 0)),(.int 1 (.ofNat 0)),(.int 1 (.ofNat 0)),(.int 3 (.ofNat 0)),.nilS,(.int 1 (.ofNat 0)),(.str []),.nilS,(.int 1 (.ofNat 0)),(.int 2 (.ofNat 0))] [(0,1),(1,10),(11,1),(12,1),(13,2),(15,1),(16,2)] [(.t 4),(.t 7),(.t 9),(.t 12),(.t 15),(.t 18),(.t 21)]),cA 20 (.st 18 (.t 2) (.t 22))]) .ret))
theorem aai:bP 20 aaj:=⟨by kernel_rfl,by kernel_rfl⟩
def aah:XF:=.mk 16 (.cell 2 true 17) (.seq (g_ 2 [e_ 0 1 (.box 57 (.t 0)),e_ 1 2 (.al 115 [(.int 1 (.ofNat 0)),(.int 2 (.ofNat 0)),(.int 1 (.ofNat 0)),(.int 2 (.ofNat 0)),(.int 3 (.ofNat 0)),(.int 1 (.ofNat 0)),(.int 1 (.ofNat 0)),(.int 1 (.ofNat 0)),(.int 1 (.ofNat 0)),(.int 1 (.ofNat 0)),(.int 1 (.ofNat 0)),(.int 1 (.ofNat 0)),(.int 1 (.ofNat 0)),(.str []),(.int 1 (.ofNat 0)),(.int 3 (.ofNat 0)),.nilS])]) (.seq (h_ 14 [p_ 0 3 (f_ 0 1),r_ 1 4 (.ld true 2 (.t 3)),p_ 3 6 (f_ 2 1),r_ 4 7 (.ld true 10 (.t 6)),p_ 6 9 (f_ 12 1),r_ 7 10 (.ld true 2 (.t 9)),p_ 9 12 (f_ 14 1),r_ 10 13 (.ld true 3 (.t 12)),c_ 2 5 55 [.t 4],a_ 4 7 (.ld true 10 (.t 6)),a_ 7 10 (.ld true 2 (.t 9)),a_ 10 13 (.ld true 3 (.t 12)),c_ 5 8 48 [.t 7],a_ 7 10 (.ld true 2 (.t 9)),a_ 10 13 (.ld true 3 (.t 12)),c_ 8 11 51 [.t 10],a_ 10 13 (.ld true 3 (.t 12)),c_ 11 14 59 [.t 13],p_ 12 15 (.bld [(.int 1 (.ofNat 0)),(.int 2 (.ofNat 0)),(.int 1 (.ofNat 0)),(.int 2 (.ofNat 0)),(.int 3 (.ofNat 0)),(.int 1 (.ofNat 0)),(.int 1 (.ofNat 0)),(.int 1 (.ofNat 0)),(.int 1 (.ofNat 0)),(.int 1 (.ofNat 0)),(.int 1 (.ofNat 0)),(.int 1 (.ofNat 0)),(.int 1 (.ofNat 0)),(.str []),(.int 1 (.ofNat 0)),(.int 3 (.ofNat 0)),.nilS] [(0,2),(2,10),(12,2),(14,3)] [(.t 5),(.t 8),(.t 11),(.t 14)]),cA 13 (.st 17 (.t 2) (.t 15))]) .ret))
theorem aag:bP 22 aah:=⟨by kernel_rfl,by kernel_rfl⟩
def aaf:XF:=.mk 10 (.cell 2 true 5) (.seq (g_ 2 [e_ 0 1 (.box 59 (.t 0)),e_ 1 2 (.al 119 [(.int 1 (.ofNat 0)),(.int 2 (.ofNat 0)),(.int 1 (.ofNat 0)),(.int 3 (.ofNat 0)),.nilS])]) (.seq (h_ 8 [p_ 0 3 (f_ 0 1),r_ 1 4 (.ld true 2 (.t 3)),p_ 3 6 (f_ 2 1),r_ 4 7 (.ld true 3 (.t 6)),c_ 2 5 55 [.t 4],a_ 4 7 (.ld true 3 (.t 6)),c_ 5 8 59 [.t 7],p_ 6 9 (.bld [(.int 1 (.ofNat 0)),(.int 2 (.ofNat 0)),(.int 1 (.ofNat 0)),(.int 3 (.ofNat 0)),.nilS] [(0,2),(2,3)] [(.t 5),(.t 8)]),cA 7 (.st 5 (.t 2) (.t 9))]) .ret))
theorem aae:bP 24 aaf:=⟨by kernel_rfl,by kernel_rfl⟩
def aad:XF:=.mk 14 .none (.seq (h_ 6 [p_ 0 4 (m_ 0),p_ 1 5 (n_ 4),p_ 2 6 (f_ 0 5),p_ 3 7 (m_ 1),c_ 4 8 64 [(.t 7),(.c (.str [32]))],c_ 5 9 63 [(.t 6),(.t 8)]]) (g_ 4 [p_ 0 10 (m_ 0),p_ 1 11 (n_ 10),p_ 2 12 (f_ 0 11),c_ 3 13 65 [(.t 12),(.c (.int 1 (.ofNat 10)))]]))
theorem aac:bP 31 aad:=⟨by kernel_rfl,by kernel_rfl⟩
def aab:XF:=.mk 11 (.one 2) (.seq (g_ 1 [p_ 0 2 (.mv (.c .nilS))]) (.seq (.seq (g_ 2 [p_ 0 3 (m_ 0),c_ 1 4 46 [.t 3]]) (.cond (.t 4) (.seq (g_ 1 [p_ 0 2 (.mv (.c .nilS))]) .ret) .skip)) (.seq (g_ 7 [p_ 0 5 (m_ 0),p_ 1 6 (n_ 5),p_ 2 7 (f_ 2 6),p_ 3 8 (f_ 1 7),r_ 4 9 (l_ 8),c_ 5 10 72 [.t 9],p_ 6 2 (m_ 10)]) .ret)))
theorem aaa:bP 37 aab:=⟨by kernel_rfl,by kernel_rfl⟩
def ZZ:XF:=.mk 28 (.one 2) (.seq (g_ 1 [p_ 0 2 (.mv (.c .nilS))]) (.seq (.seq (g_ 2 [p_ 0 6 (m_ 0),c_ 1 7 46 [.t 6]]) (.cond (.t 7) (.seq (g_ 1 [p_ 0 2 (.mv (.c .nilS))]) .ret) .skip)) (.seq (g_ 1 [p_ 0 3 (.mv (.c .nilS))]) (.seq (.seq (g_ 7 [p_ 0 8 (m_ 0),p_ 1 9 (n_ 8),p_ 2 10 (f_ 0 9),p_ 3 11 (f_ 1 10),r_ 4 12 (l_ 11),p_ 5 13 (k_ 12),p_ 6 14 (.mv (i_ 0))]) (.block 2 (.loop [2,3,5,12,13,14,15,16,17,18,19,20,21,22,23,24,25,26,27] (.seq (g_ 1 [p_ 0 15 (.bin 3 0 (.t 14) (.t 13))]) (.seq (.cond (.t 15) .skip (.exit 2)) (.seq (.block 3 (.seq (g_ 4 [p_ 0 16 (.ixs 14 (.t 12) (.t 14)),r_ 1 17 (.ld true 14 (.t 16)),e_ 2 5 (.al 78 [(.int 1 (.ofNat 0)),(.int 2 (.ofNat 0)),(.int 3 (.ofNat 0)),(.int 1 (.ofNat 0)),(.int 1 (.ofNat 0)),(.int 1 (.ofNat 0)),(.int 1 (.ofNat 0)),(.int 1 (.ofNat 0)),(.int 1 (.ofNat 0)),(.int 1 (.ofNat 0)),(.int 1 (.ofNat 0)),(o_ 0),(o_ 0),.nilS]),cA 3 (.st 14 (.t 5) (.t 17))]) (.seq (g_ 5 [p_ 0 18 (f_ 13 5),r_ 1 19 (l_ 18),c_ 2 20 45 [.t 19],p_ 3 21 (f_ 13 5),cA 4 (.st 1 (.t 21) (.t 20))]) (g_ 5 [p_ 0 22 (m_ 3),r_ 1 23 (.ld true 14 (.t 5)),e_ 2 24 (.bsl 78 14 1 [(.int 1 (.ofNat 0)),(.int 2 (.ofNat 0)),(.int 3 (.ofNat 0)),(.int 1 (.ofNat 0)),(.int 1 (.ofNat 0)),(.int 1 (.ofNat 0)),(.int 1 (.ofNat 0)),(.int 1 (.ofNat 0)),(.int 1 (.ofNat 0)),(.int 1 (.ofNat 0)),(.int 1 (.ofNat 0)),(o_ 0),(o_ 0),.nilS] [(0,14)] [.t 23]),e_ 3 25 (.app 78 14 64 (.t 22) (.t 24)),p_ 4 3 (m_ 25)])))) (g_ 2 [p_ 0 26 (.bin 0 0 (.t 14) (i_ 1)),p_ 1 14 (m_ 26)]))))))) (.seq (g_ 2 [p_ 0 27 (m_ 3),p_ 1 2 (m_ 27)]) .ret)))))
theorem ZY:bP 38 ZZ:=⟨by kernel_rfl,by kernel_rfl⟩
def ZX:XF:=.mk 17 (.one 4) (.seq (g_ 1 [p_ 0 4 (.mv (.c (.str [])))]) (.seq (.seq (g_ 8 [p_ 0 5 (m_ 0),p_ 1 6 (.bin 3 0 (.t 5) (i_ 0)),p_ 2 7 (m_ 6),aK 3 8 7 false (m_ 0),aK 4 9 7 false (m_ 1),aK 5 10 7 false (k_ 9),aK 6 11 7 false (.bin 3 3 (.t 8) (.t 10)),p_ 7 12 (.pick (.t 7) (.c (.bool true)) (.t 11))]) (.cond (.t 12) (.seq (g_ 1 [p_ 0 4 (.mv (.c (.str [111,100,100])))]) .ret) .skip)) (.seq (g_ 5 [p_ 0 13 (m_ 1),p_ 1 14 (m_ 0),p_ 2 15 (.ixs 1 (.t 13) (.t 14)),r_ 3 16 (l_ 15),p_ 4 4 (m_ 16)]) .ret)))
theorem ZW:bP 40 ZX:=⟨by kernel_rfl,by kernel_rfl⟩
def ZV:XF:=.mk 20 (.one 2) (.seq (g_ 2 [e_ 0 1 (.box 101 (.t 0)),p_ 1 2 (.mv (.c .nilS))]) (.seq (g_ 6 [p_ 0 4 (f_ 0 1),r_ 1 5 (l_ 4),p_ 2 6 (.cnv 0 (.t 5)),c_ 3 7 32 [.t 6],e_ 4 8 (.bsl 9 1 1 [(.str [])] [(0,1)] [.t 7]),p_ 5 3 (m_ 8)]) (.seq (.seq (g_ 3 [p_ 0 9 (f_ 1 1),r_ 1 10 (l_ 9),p_ 2 11 (.bin 5 1 (.t 10) (.c (.str [])))]) (.cond (.t 11) (g_ 8 [p_ 0 12 (m_ 3),p_ 1 13 (f_ 1 1),r_ 2 14 (l_ 13),p_ 3 15 (.bin 4 0 (.c (.str [91])) (.t 14)),p_ 4 16 (.bin 4 0 (.t 15) (.c (.str [93]))),e_ 5 17 (.bsl 9 1 1 [(.str [])] [(0,1)] [.t 16]),e_ 6 18 (.app 9 1 16 (.t 12) (.t 17)),p_ 7 3 (m_ 18)]) .skip)) (.seq (g_ 2 [p_ 0 19 (m_ 3),p_ 1 2 (m_ 19)]) .ret))))
theorem ZU:bP 41 ZV:=⟨by kernel_rfl,by kernel_rfl⟩
def ZT:XF:=.mk 15 (.one 2) (.seq (g_ 1 [p_ 0 2 (.mv (.c (.str [])))]) (.seq (g_ 2 [e_ 0 4 (.bsl 9 1 3 [(.str []),(.str []),(.str [])] [(0,1),(1,1),(2,1)] [(.c (.str [102,105,114,115,116])),(.c (.str [109,97,106,111,114,105,116,121])),(.c (.str [97,108,108]))]),p_ 1 3 (m_ 4)]) (.seq (.seq (g_ 6 [p_ 0 5 (m_ 0),p_ 1 6 (.bin 3 0 (.t 5) (i_ 0)),p_ 2 7 (m_ 6),aK 3 8 7 false (m_ 0),aK 4 9 7 false (.bin 3 2 (.t 8) (i_ 2)),p_ 5 10 (.pick (.t 7) (.c (.bool true)) (.t 9))]) (.cond (.t 10) (.seq (g_ 1 [p_ 0 2 (.mv (.c (.str [111,100,100])))]) .ret) .skip)) (.seq (g_ 5 [p_ 0 11 (m_ 3),p_ 1 12 (m_ 0),p_ 2 13 (.ixs 1 (.t 11) (.t 12)),r_ 3 14 (l_ 13),p_ 4 2 (m_ 14)]) .ret))))
theorem ZS:bP 43 ZT:=⟨by kernel_rfl,by kernel_rfl⟩
def ZR:XF:=.mk 8 (.one 2) (.seq (g_ 1 [p_ 0 2 (.mv (.c .nilS))]) (.seq (.seq (g_ 2 [p_ 0 3 (m_ 0),p_ 1 4 (.isn false 2 (.t 3))]) (.cond (.t 4) (.seq (g_ 1 [p_ 0 2 (.mv (.c .nilS))]) .ret) .skip)) (.seq (g_ 4 [e_ 0 5 (.bsl 154 5 0 [] [] []),p_ 1 6 (m_ 0),e_ 2 7 (.app 154 5 48 (.t 5) (.t 6)),p_ 3 2 (m_ 7)]) .ret)))
theorem ZQ:bP 45 ZR:=⟨by kernel_rfl,by kernel_rfl⟩
def ZP:XF:=.mk 12 (.one 2) (.seq (g_ 1 [p_ 0 2 (.mv (.c (.bool false)))]) (.seq (g_ 10 [p_ 0 3 (m_ 0),p_ 1 4 (.isn false 1 (.t 3)),p_ 2 5 (m_ 4),aK 3 6 5 false (m_ 0),aK 4 7 5 false (n_ 6),aK 5 8 5 false (f_ 13 7),bU 6 9 5 false (l_ 8),aK 7 10 5 false (.un 0 (.t 9)),p_ 8 11 (.pick (.t 5) (.c (.bool true)) (.t 10)),p_ 9 2 (m_ 11)]) .ret))
theorem ZO:bP 46 ZP:=⟨by kernel_rfl,by kernel_rfl⟩
def ZN:XF:=.mk 37 (.one 6) (.seq (g_ 3 [e_ 0 4 (.box 75 (.t 1)),e_ 1 5 (.box 78 (.t 2)),p_ 2 6 (.mv (.c (.bool false)))]) (.seq (.seq (h_ 6 [p_ 0 7 (m_ 0),p_ 1 8 (n_ 7),p_ 2 9 (f_ 0 8),r_ 3 10 (l_ 9),r_ 4 11 (.ld true 10 (.t 4)),r_ 5 12 (.lk 4 (.st [(0,2,true,(.st [(0,1,false,.int),(1,1,false,.int)])),(2,1,false,.int),(3,1,false,.int),(4,6,true,(.ar [0,2,4] 2 true (.st [(0,1,false,.int),(1,1,false,.int)])))]) (.bool false) false (.t 10) (.t 11))]) (.cond (.t 12) (.seq (g_ 1 [p_ 0 6 (.mv (.c (.bool false)))]) .ret) .skip)) (.seq (.seq (g_ 5 [p_ 0 13 (m_ 0),p_ 1 14 (n_ 13),p_ 2 15 (f_ 0 14),r_ 3 16 (l_ 15),p_ 4 17 (.isn false 3 (.t 16))]) (.cond (.t 17) (g_ 5 [p_ 0 18 (m_ 0),e_ 1 19 .mkm,p_ 2 20 (n_ 18),p_ 3 21 (f_ 0 20),cA 4 (.st 1 (.t 21) (.t 19))]) .skip)) (.seq (h_ 6 [p_ 0 22 (m_ 0),p_ 1 23 (n_ 22),p_ 2 24 (f_ 0 23),r_ 3 25 (l_ 24),r_ 4 26 (.ld true 10 (.t 4)),cA 5 (.mu 4 (.st [(0,2,true,(.st [(0,1,false,.int),(1,1,false,.int)])),(2,1,false,.int),(3,1,false,.int),(4,6,true,(.ar [0,2,4] 2 true (.st [(0,1,false,.int),(1,1,false,.int)])))]) (.t 25) (.t 26) (.c (.bool true)))]) (.seq (h_ 11 [p_ 0 27 (m_ 0),p_ 1 28 (m_ 0),p_ 2 29 (n_ 28),p_ 3 30 (f_ 1 29),r_ 4 31 (l_ 30),r_ 5 32 (.ld true 14 (.t 5)),e_ 6 33 (.bsl 78 14 1 [(.int 1 (.ofNat 0)),(.int 2 (.ofNat 0)),(.int 3 (.ofNat 0)),(.int 1 (.ofNat 0)),(.int 1 (.ofNat 0)),(.int 1 (.ofNat 0)),(.int 1 (.ofNat 0)),(.int 1 (.ofNat 0)),(.int 1 (.ofNat 0)),(.int 1 (.ofNat 0)),(.int 1 (.ofNat 0)),(o_ 0),(o_ 0),.nilS] [(0,14)] [.t 32]),a_ 4 31 (l_ 30),e_ 7 34 (.app 78 14 64 (.t 31) (.t 33)),p_ 8 35 (n_ 27),p_ 9 36 (f_ 1 35),cA 10 (.st 1 (.t 36) (.t 34))]) (.seq (g_ 1 [p_ 0 6 (.mv (.c (.bool true)))]) .ret))))))
theorem ZM:bP 47 ZN:=⟨by kernel_rfl,by kernel_rfl⟩
def ZL:XF:=.mk 32 (.cell 2 true 10) (.seq (g_ 2 [e_ 0 1 (.box 45 (.t 0)),e_ 1 2 (.al 75 [(.int 1 (.ofNat 0)),(.int 2 (.ofNat 0)),(.int 3 (.ofNat 0)),(.int 1 (.ofNat 0)),(.int 1 (.ofNat 0)),(.int 1 (.ofNat 0)),(.int 1 (.ofNat 0)),(.int 1 (.ofNat 0)),(.int 1 (.ofNat 0)),(.int 1 (.ofNat 0))])]) (.seq (.reg true 10 (.split 2 8 (.leaf [p_ 0 5 (f_ 0 1),r_ 1 6 (.ld true 2 (.t 5)),p_ 3 8 (f_ 2 1),r_ 4 9 (l_ 8),p_ 5 10 (f_ 3 1),r_ 6 11 (l_ 10),c_ 2 7 55 [.t 6],a_ 4 9 (l_ 8),a_ 6 11 (l_ 10),p_ 7 12 (.bld [(.int 1 (.ofNat 0)),(.int 2 (.ofNat 0)),(.int 3 (.ofNat 0)),(.int 1 (.ofNat 0)),(.int 1 (.ofNat 0)),(.int 1 (.ofNat 0)),(.int 1 (.ofNat 0)),(.int 1 (.ofNat 0)),(.int 1 (.ofNat 0)),(.int 1 (.ofNat 0))] [(0,2),(2,1),(3,1)] [(.t 7),(.t 9),(.t 11)]),e_ 8 3 (.al 75 [(.int 1 (.ofNat 0)),(.int 2 (.ofNat 0)),(.int 3 (.ofNat 0)),(.int 1 (.ofNat 0)),(.int 1 (.ofNat 0)),(.int 1 (.ofNat 0)),(.int 1 (.ofNat 0)),(.int 1 (.ofNat 0)),(.int 1 (.ofNat 0)),(.int 1 (.ofNat 0))]),a_ 4 9 (l_ 8),a_ 6 11 (l_ 10),cA 9 (.st 10 (.t 3) (.t 12))]) (.leaf [p_ 0 5 (f_ 0 1),r_ 1 6 (.ld true 2 (.t 5)),p_ 3 8 (f_ 2 1),r_ 4 9 (l_ 8),p_ 5 10 (f_ 3 1),r_ 6 11 (l_ 10),e_ 8 3 (.al 75 [(.int 1 (.ofNat 0)),(.int 2 (.ofNat 0)),(.int 3 (.ofNat 0)),(.int 1 (.ofNat 0)),(.int 1 (.ofNat 0)),(.int 1 (.ofNat 0)),(.int 1 (.ofNat 0)),(.int 1 (.ofNat 0)),(.int 1 (.ofNat 0)),(.int 1 (.ofNat 0))]),a_ 1 6 (.ld true 2 (.t 5)),a_ 4 9 (l_ 8),a_ 6 11 (l_ 10),c_ 2 7 55 [.t 6],a_ 4 9 (l_ 8),a_ 6 11 (l_ 10),p_ 7 12 (.bld [(.int 1 (.ofNat 0)),(.int 2 (.ofNat 0)),(.int 3 (.ofNat 0)),(.int 1 (.ofNat 0)),(.int 1 (.ofNat 0)),(.int 1 (.ofNat 0)),(.int 1 (.ofNat 0)),(.int 1 (.ofNat 0)),(.int 1 (.ofNat 0)),(.int 1 (.ofNat 0))] [(0,2),(2,1),(3,1)] [(.t 7),(.t 9),(.t 11)]),cA 9 (.st 10 (.t 3) (.t 12))]))) (.seq (.seq (g_ 1 [p_ 0 4 (.mv (i_ 0))]) (.block 2 (.loop [1,2,3,4,13,14,15,16,17,18,19,20,21,22,23,24,25,26,27,28,29,30,31] (.seq (.seq (g_ 2 [p_ 0 13 (m_ 4),p_ 1 14 (.bin 3 0 (.t 13) (i_ 3))]) (.cond (.t 14) .skip (.exit 2))) (.seq (.block 3 (h_ 15 [p_ 0 17 (m_ 4),p_ 1 18 (m_ 4),p_ 2 19 (f_ 4 1),p_ 3 20 (.ixa 3 2 (.t 19) (.t 18)),p_ 4 21 (f_ 0 20),r_ 5 22 (l_ 21),p_ 6 23 (m_ 4),p_ 7 24 (f_ 4 1),p_ 8 25 (.ixa 3 2 (.t 24) (.t 23)),p_ 9 26 (f_ 1 25),r_ 10 27 (l_ 26),p_ 11 28 (.bld [(.int 1 (.ofNat 0)),(.int 1 (.ofNat 0))] [(0,1),(1,1)] [(.t 22),(.t 27)]),p_ 12 29 (f_ 4 3),p_ 13 30 (.ixa 3 2 (.t 29) (.t 17)),cA 14 (.st 2 (.t 30) (.t 28))])) (g_ 3 [p_ 0 15 (m_ 4),p_ 1 16 (.bin 0 0 (.t 15) (i_ 1)),p_ 2 4 (m_ 16)])))))) (.seq (g_ 2 [r_ 0 31 (.ld true 10 (.t 3)),cA 1 (.st 10 (.t 2) (.t 31))]) .ret))))
theorem ZK:bP 48 ZL:=⟨by kernel_rfl,by kernel_rfl⟩
def ZJ:XF:=.mk 37 (.one 6) (.seq (g_ 3 [e_ 0 4 (.box 75 (.t 1)),e_ 1 5 (.box 103 (.t 2)),p_ 2 6 (.mv (.c (.bool false)))]) (.seq (.seq (h_ 6 [p_ 0 7 (m_ 0),p_ 1 8 (n_ 7),p_ 2 9 (f_ 0 8),r_ 3 10 (l_ 9),r_ 4 11 (.ld true 10 (.t 4)),r_ 5 12 (.lk 4 (.st [(0,2,true,(.st [(0,1,false,.int),(1,1,false,.int)])),(2,1,false,.int),(3,1,false,.int),(4,6,true,(.ar [0,2,4] 2 true (.st [(0,1,false,.int),(1,1,false,.int)])))]) (.bool false) false (.t 10) (.t 11))]) (.cond (.t 12) (.seq (g_ 1 [p_ 0 6 (.mv (.c (.bool false)))]) .ret) .skip)) (.seq (.seq (g_ 5 [p_ 0 13 (m_ 0),p_ 1 14 (n_ 13),p_ 2 15 (f_ 0 14),r_ 3 16 (l_ 15),p_ 4 17 (.isn false 3 (.t 16))]) (.cond (.t 17) (g_ 5 [p_ 0 18 (m_ 0),e_ 1 19 .mkm,p_ 2 20 (n_ 18),p_ 3 21 (f_ 0 20),cA 4 (.st 1 (.t 21) (.t 19))]) .skip)) (.seq (h_ 6 [p_ 0 22 (m_ 0),p_ 1 23 (n_ 22),p_ 2 24 (f_ 0 23),r_ 3 25 (l_ 24),r_ 4 26 (.ld true 10 (.t 4)),cA 5 (.mu 4 (.st [(0,2,true,(.st [(0,1,false,.int),(1,1,false,.int)])),(2,1,false,.int),(3,1,false,.int),(4,6,true,(.ar [0,2,4] 2 true (.st [(0,1,false,.int),(1,1,false,.int)])))]) (.t 25) (.t 26) (.c (.bool true)))]) (.seq (h_ 11 [p_ 0 27 (m_ 0),p_ 1 28 (m_ 0),p_ 2 29 (n_ 28),p_ 3 30 (f_ 1 29),r_ 4 31 (l_ 30),r_ 5 32 (.ld true 17 (.t 5)),e_ 6 33 (.bsl 103 17 1 [(.int 1 (.ofNat 0)),(.int 2 (.ofNat 0)),(.int 3 (.ofNat 0)),(.int 1 (.ofNat 0)),(.int 1 (.ofNat 0)),(.int 1 (.ofNat 0)),(.int 1 (.ofNat 0)),(.int 1 (.ofNat 0)),(.int 1 (.ofNat 0)),(.int 1 (.ofNat 0)),(.int 1 (.ofNat 0)),(o_ 0),(o_ 0),(o_ 0),(o_ 0),(.int 1 (.ofNat 0)),(.str [])] [(0,17)] [.t 32]),a_ 4 31 (l_ 30),e_ 7 34 (.app 103 17 80 (.t 31) (.t 33)),p_ 8 35 (n_ 27),p_ 9 36 (f_ 1 35),cA 10 (.st 1 (.t 36) (.t 34))]) (.seq (g_ 1 [p_ 0 6 (.mv (.c (.bool true)))]) .ret))))))
theorem ZI:bP 50 ZJ:=⟨by kernel_rfl,by kernel_rfl⟩
def ZH:XF:=.mk 8 (.cell 2 true 2) (.seq (g_ 2 [e_ 0 1 (.box 50 (.t 0)),e_ 1 2 (.al 101 [(.int 1 (.ofNat 0)),(.str [])])]) (.seq (g_ 6 [p_ 0 3 (f_ 0 1),r_ 1 4 (l_ 3),p_ 2 5 (f_ 1 1),r_ 3 6 (l_ 5),p_ 4 7 (.bld [(.int 1 (.ofNat 0)),(.str [])] [(0,1),(1,1)] [(.t 4),(.t 6)]),cA 5 (.st 2 (.t 2) (.t 7))]) .ret))
theorem ZG:bP 51 ZH:=⟨by kernel_rfl,by kernel_rfl⟩
def ZF:XF:=.mk 12 (.cell 2 true 18) (.seq (g_ 2 [e_ 0 1 (.box 108 (.t 0)),e_ 1 2 (.al 108 [(.int 1 (.ofNat 0)),(.int 1 (.ofNat 0)),(.int 2 (.ofNat 0)),(.int 3 (.ofNat 0)),(.int 1 (.ofNat 0)),(.int 1 (.ofNat 0)),(.int 1 (.ofNat 0)),(.int 1 (.ofNat 0)),(.int 1 (.ofNat 0)),(.int 1 (.ofNat 0)),(.int 1 (.ofNat 0)),(.int 3 (.ofNat 0)),.nilS,(.int 1 (.ofNat 0)),(.str []),.nilS,(.int 1 (.ofNat 0)),(.int 2 (.ofNat 0))])]) (.seq (h_ 10 [p_ 0 3 (f_ 12 1),r_ 1 4 (l_ 3),p_ 3 6 (f_ 15 1),r_ 4 7 (l_ 6),c_ 2 5 45 [.t 4],a_ 4 7 (l_ 6),p_ 6 9 (f_ 12 1),c_ 5 8 75 [.t 7],cA 7 (.st 1 (.t 9) (.t 5)),p_ 8 10 (f_ 15 1),cA 9 (.st 1 (.t 10) (.t 8))]) (.seq (g_ 2 [r_ 0 11 (.ld true 18 (.t 1)),cA 1 (.st 18 (.t 2) (.t 11))]) .ret)))
theorem ZE:bP 52 ZF:=⟨by kernel_rfl,by kernel_rfl⟩
def ZD:XF:=.mk 52 (.one 4) (.seq (g_ 3 [e_ 0 2 (.box 108 (.t 0)),e_ 1 3 (.box 108 (.t 1)),p_ 2 4 (.mv (.c (.bool false)))]) (.seq (g_ 48 [p_ 0 5 (f_ 0 2),r_ 1 6 (l_ 5),p_ 2 7 (f_ 0 3),r_ 3 8 (l_ 7),p_ 4 9 (.bin 3 4 (.t 6) (.t 8)),p_ 5 10 (m_ 9),aK 6 11 10 true (f_ 1 2),bU 7 12 10 true (.ld true 10 (.t 11)),aK 8 13 10 true (f_ 1 3),bU 9 14 10 true (.ld true 10 (.t 13)),aK 10 15 10 true (.eqs false 4 (.st [(0,2,true,(.st [(0,1,false,.int),(1,1,false,.int)])),(2,1,false,.int),(3,1,false,.int),(4,6,true,(.ar [0,2,4] 2 true (.st [(0,1,false,.int),(1,1,false,.int)])))]) (.t 12) (.t 14)),p_ 11 16 (.pick (.t 10) (.t 15) (.c (.bool false))),p_ 12 17 (m_ 16),aK 13 18 17 true (f_ 11 2),bU 14 19 17 true (l_ 18),aK 15 20 17 true (f_ 11 3),bU 16 21 17 true (l_ 20),aK 17 22 17 true (.bin 3 4 (.t 19) (.t 21)),p_ 18 23 (.pick (.t 17) (.t 22) (.c (.bool false))),p_ 19 24 (m_ 23),aK 20 25 24 true (f_ 12 2),bU 21 26 24 true (l_ 25),aK 22 27 24 true (f_ 12 3),bU 23 28 24 true (l_ 27),qf 24 29 24 true 76 [(.t 26),(.t 28)],p_ 25 30 (.pick (.t 24) (.t 29) (.c (.bool false))),p_ 26 31 (m_ 30),aK 27 32 31 true (f_ 13 2),bU 28 33 31 true (.ld true 2 (.t 32)),aK 29 34 31 true (f_ 13 3),bU 30 35 31 true (.ld true 2 (.t 34)),aK 31 36 31 true (.eqs false 2 (.st [(0,1,false,.int),(1,1,false,.str)]) (.t 33) (.t 35)),p_ 32 37 (.pick (.t 31) (.t 36) (.c (.bool false))),p_ 33 38 (m_ 37),aK 34 39 38 true (f_ 15 2),bU 35 40 38 true (l_ 39),aK 36 41 38 true (f_ 15 3),bU 37 42 38 true (l_ 41),qf 38 43 38 true 77 [(.t 40),(.t 42)],p_ 39 44 (.pick (.t 38) (.t 43) (.c (.bool false))),p_ 40 45 (m_ 44),aK 41 46 45 true (f_ 16 2),bU 42 47 45 true (.ld true 2 (.t 46)),aK 43 48 45 true (f_ 16 3),bU 44 49 45 true (.ld true 2 (.t 48)),aK 45 50 45 true (.eqs false 2 (.st [(0,1,false,.int),(1,1,false,.int)]) (.t 47) (.t 49)),p_ 46 51 (.pick (.t 45) (.t 50) (.c (.bool false))),p_ 47 4 (m_ 51)]) .ret))
theorem ZC:bP 53 ZD:=⟨by kernel_rfl,by kernel_rfl⟩
def ZB:XF:=.mk 8 (.cell 2 true 2) (.seq (g_ 2 [e_ 0 1 (.box 39 (.t 0)),e_ 1 2 (.al 71 [(.int 1 (.ofNat 0)),(.int 2 (.ofNat 0))])]) (.seq (g_ 6 [p_ 0 3 (f_ 0 1),r_ 1 4 (l_ 3),p_ 2 5 (f_ 1 1),r_ 3 6 (l_ 5),p_ 4 7 (.bld [(.int 1 (.ofNat 0)),(.int 2 (.ofNat 0))] [(0,1),(1,1)] [(.t 4),(.t 6)]),cA 5 (.st 2 (.t 2) (.t 7))]) .ret))
theorem ZA:bP 55 ZB:=⟨by kernel_rfl,by kernel_rfl⟩
def Zz:XF:=.mk 8 (.cell 2 true 3) (.seq (g_ 2 [e_ 0 1 (.box 113 (.t 0)),e_ 1 2 (.al 113 [(.int 1 (.ofNat 0)),(.int 3 (.ofNat 0)),.nilS])]) (.seq (g_ 5 [p_ 0 3 (f_ 2 1),r_ 1 4 (l_ 3),c_ 2 5 78 [.t 4],p_ 3 6 (f_ 2 1),cA 4 (.st 1 (.t 6) (.t 5))]) (.seq (g_ 2 [r_ 0 7 (.ld true 3 (.t 1)),cA 1 (.st 3 (.t 2) (.t 7))]) .ret)))
theorem Zy:bP 56 Zz:=⟨by kernel_rfl,by kernel_rfl⟩
def Zx:XF:=.mk 37 (.one 6) (.seq (g_ 3 [e_ 0 4 (.box 170 (.t 1)),e_ 1 5 (.box 115 (.t 2)),p_ 2 6 (.mv (.c (.bool false)))]) (.seq (.seq (h_ 6 [p_ 0 7 (m_ 0),p_ 1 8 (n_ 7),p_ 2 9 (f_ 0 8),r_ 3 10 (l_ 9),r_ 4 11 (.ld true 16 (.t 4)),r_ 5 12 (.lk 5 (.st [(0,2,true,(.st [(0,1,false,.int),(1,1,false,.int)])),(2,10,true,(.st [(0,2,true,(.st [(0,1,false,.int),(1,1,false,.int)])),(2,1,false,.int),(3,1,false,.int),(4,6,true,(.ar [0,2,4] 2 true (.st [(0,1,false,.int),(1,1,false,.int)])))])),(12,2,true,(.st [(0,1,false,.int),(1,1,false,.str)])),(14,2,true,(.st [(0,1,false,.int),(1,1,false,.int)]))]) (.bool false) false (.t 10) (.t 11))]) (.cond (.t 12) (.seq (g_ 1 [p_ 0 6 (.mv (.c (.bool false)))]) .ret) .skip)) (.seq (.seq (g_ 5 [p_ 0 13 (m_ 0),p_ 1 14 (n_ 13),p_ 2 15 (f_ 0 14),r_ 3 16 (l_ 15),p_ 4 17 (.isn false 3 (.t 16))]) (.cond (.t 17) (g_ 5 [p_ 0 18 (m_ 0),e_ 1 19 .mkm,p_ 2 20 (n_ 18),p_ 3 21 (f_ 0 20),cA 4 (.st 1 (.t 21) (.t 19))]) .skip)) (.seq (h_ 6 [p_ 0 22 (m_ 0),p_ 1 23 (n_ 22),p_ 2 24 (f_ 0 23),r_ 3 25 (l_ 24),r_ 4 26 (.ld true 16 (.t 4)),cA 5 (.mu 5 (.st [(0,2,true,(.st [(0,1,false,.int),(1,1,false,.int)])),(2,10,true,(.st [(0,2,true,(.st [(0,1,false,.int),(1,1,false,.int)])),(2,1,false,.int),(3,1,false,.int),(4,6,true,(.ar [0,2,4] 2 true (.st [(0,1,false,.int),(1,1,false,.int)])))])),(12,2,true,(.st [(0,1,false,.int),(1,1,false,.str)])),(14,2,true,(.st [(0,1,false,.int),(1,1,false,.int)]))]) (.t 25) (.t 26) (.c (.bool true)))]) (.seq (h_ 11 [p_ 0 27 (m_ 0),p_ 1 28 (m_ 0),p_ 2 29 (n_ 28),p_ 3 30 (f_ 1 29),r_ 4 31 (l_ 30),r_ 5 32 (.ld true 17 (.t 5)),e_ 6 33 (.bsl 115 17 1 [(.int 1 (.ofNat 0)),(.int 2 (.ofNat 0)),(.int 1 (.ofNat 0)),(.int 2 (.ofNat 0)),(.int 3 (.ofNat 0)),(.int 1 (.ofNat 0)),(.int 1 (.ofNat 0)),(.int 1 (.ofNat 0)),(.int 1 (.ofNat 0)),(.int 1 (.ofNat 0)),(.int 1 (.ofNat 0)),(.int 1 (.ofNat 0)),(.int 1 (.ofNat 0)),(.str []),(.int 1 (.ofNat 0)),(.int 3 (.ofNat 0)),.nilS] [(0,17)] [.t 32]),a_ 4 31 (l_ 30),e_ 7 34 (.app 115 17 80 (.t 31) (.t 33)),p_ 8 35 (n_ 27),p_ 9 36 (f_ 1 35),cA 10 (.st 1 (.t 36) (.t 34))]) (.seq (g_ 1 [p_ 0 6 (.mv (.c (.bool true)))]) .ret))))))
theorem Zw:bP 57 Zx:=⟨by kernel_rfl,by kernel_rfl⟩
def Zv:XF:=.mk 8 (.cell 2 true 2) (.seq (g_ 2 [e_ 0 1 (.box 113 (.t 0)),e_ 1 2 (.al 168 [(.int 1 (.ofNat 0)),(.int 3 (.ofNat 0))])]) (.seq (g_ 6 [p_ 0 3 (f_ 0 1),r_ 1 4 (l_ 3),p_ 2 5 (f_ 1 1),r_ 3 6 (l_ 5),p_ 4 7 (.bld [(.int 1 (.ofNat 0)),(.int 3 (.ofNat 0))] [(0,1),(1,1)] [(.t 4),(.t 6)]),cA 5 (.st 2 (.t 2) (.t 7))]) .ret))
theorem Zu:bP 58 Zv:=⟨by kernel_rfl,by kernel_rfl⟩
def Zt:XF:=.mk 11 (.cell 2 true 3) (.seq (g_ 2 [e_ 0 1 (.box 55 (.t 0)),e_ 1 2 (.al 113 [(.int 1 (.ofNat 0)),(.int 3 (.ofNat 0)),.nilS])]) (.seq (h_ 9 [p_ 0 3 (f_ 0 1),r_ 1 4 (l_ 3),p_ 2 5 (f_ 1 1),r_ 3 6 (l_ 5),p_ 4 7 (f_ 2 1),r_ 5 8 (l_ 7),c_ 6 9 79 [.t 8],a_ 1 4 (l_ 3),a_ 3 6 (l_ 5),p_ 7 10 (.bld [(.int 1 (.ofNat 0)),(.int 3 (.ofNat 0)),.nilS] [(0,1),(1,1),(2,1)] [(.t 4),(.t 6),(.t 9)]),cA 8 (.st 3 (.t 2) (.t 10))]) .ret))
theorem Zs:bP 59 Zt:=⟨by kernel_rfl,by kernel_rfl⟩
def Zr:XF:=.mk 37 (.one 6) (.seq (g_ 3 [e_ 0 4 (.box 175 (.t 1)),e_ 1 5 (.box 119 (.t 2)),p_ 2 6 (.mv (.c (.bool false)))]) (.seq (.seq (h_ 6 [p_ 0 7 (m_ 0),p_ 1 8 (n_ 7),p_ 2 9 (f_ 0 8),r_ 3 10 (l_ 9),r_ 4 11 (.ld true 4 (.t 4)),r_ 5 12 (.lk 3 (.st [(0,2,true,(.st [(0,1,false,.int),(1,1,false,.int)])),(2,2,true,(.st [(0,1,false,.int),(1,1,false,.int)]))]) (.bool false) false (.t 10) (.t 11))]) (.cond (.t 12) (.seq (g_ 1 [p_ 0 6 (.mv (.c (.bool false)))]) .ret) .skip)) (.seq (.seq (g_ 5 [p_ 0 13 (m_ 0),p_ 1 14 (n_ 13),p_ 2 15 (f_ 0 14),r_ 3 16 (l_ 15),p_ 4 17 (.isn false 3 (.t 16))]) (.cond (.t 17) (g_ 5 [p_ 0 18 (m_ 0),e_ 1 19 .mkm,p_ 2 20 (n_ 18),p_ 3 21 (f_ 0 20),cA 4 (.st 1 (.t 21) (.t 19))]) .skip)) (.seq (h_ 6 [p_ 0 22 (m_ 0),p_ 1 23 (n_ 22),p_ 2 24 (f_ 0 23),r_ 3 25 (l_ 24),r_ 4 26 (.ld true 4 (.t 4)),cA 5 (.mu 3 (.st [(0,2,true,(.st [(0,1,false,.int),(1,1,false,.int)])),(2,2,true,(.st [(0,1,false,.int),(1,1,false,.int)]))]) (.t 25) (.t 26) (.c (.bool true)))]) (.seq (h_ 11 [p_ 0 27 (m_ 0),p_ 1 28 (m_ 0),p_ 2 29 (n_ 28),p_ 3 30 (f_ 1 29),r_ 4 31 (l_ 30),r_ 5 32 (.ld true 5 (.t 5)),e_ 6 33 (.bsl 119 5 1 [(.int 1 (.ofNat 0)),(.int 2 (.ofNat 0)),(.int 1 (.ofNat 0)),(.int 3 (.ofNat 0)),.nilS] [(0,5)] [.t 32]),a_ 4 31 (l_ 30),e_ 7 34 (.app 119 5 40 (.t 31) (.t 33)),p_ 8 35 (n_ 27),p_ 9 36 (f_ 1 35),cA 10 (.st 1 (.t 36) (.t 34))]) (.seq (g_ 1 [p_ 0 6 (.mv (.c (.bool true)))]) .ret))))))
theorem Zq:bP 60 Zr:=⟨by kernel_rfl,by kernel_rfl⟩
def Zp:XF:=.mk 52 (.one 4) (.seq (g_ 3 [e_ 0 2 (.box 62 (.t 0)),e_ 1 3 (.box 62 (.t 1)),p_ 2 4 (.mv (.c (.bool false)))]) (.seq (g_ 48 [p_ 0 5 (f_ 0 2),r_ 1 6 (l_ 5),p_ 2 7 (f_ 0 3),r_ 3 8 (l_ 7),p_ 4 9 (.bin 3 4 (.t 6) (.t 8)),p_ 5 10 (m_ 9),aK 6 11 10 true (f_ 1 2),bU 7 12 10 true (.ld true 10 (.t 11)),aK 8 13 10 true (f_ 1 3),bU 9 14 10 true (.ld true 10 (.t 13)),aK 10 15 10 true (.eqs false 4 (.st [(0,2,true,(.st [(0,1,false,.int),(1,1,false,.int)])),(2,1,false,.int),(3,1,false,.int),(4,6,true,(.ar [0,2,4] 2 true (.st [(0,1,false,.int),(1,1,false,.int)])))]) (.t 12) (.t 14)),p_ 11 16 (.pick (.t 10) (.t 15) (.c (.bool false))),p_ 12 17 (m_ 16),aK 13 18 17 true (f_ 11 2),bU 14 19 17 true (l_ 18),aK 15 20 17 true (f_ 11 3),bU 16 21 17 true (l_ 20),aK 17 22 17 true (.bin 3 4 (.t 19) (.t 21)),p_ 18 23 (.pick (.t 17) (.t 22) (.c (.bool false))),p_ 19 24 (m_ 23),aK 20 25 24 true (f_ 12 2),bU 21 26 24 true (l_ 25),aK 22 27 24 true (f_ 12 3),bU 23 28 24 true (l_ 27),qf 24 29 24 true 80 [(.t 26),(.t 28)],p_ 25 30 (.pick (.t 24) (.t 29) (.c (.bool false))),p_ 26 31 (m_ 30),aK 27 32 31 true (f_ 13 2),bU 28 33 31 true (.ld true 2 (.t 32)),aK 29 34 31 true (f_ 13 3),bU 30 35 31 true (.ld true 2 (.t 34)),aK 31 36 31 true (.eqs false 2 (.st [(0,1,false,.int),(1,1,false,.str)]) (.t 33) (.t 35)),p_ 32 37 (.pick (.t 31) (.t 36) (.c (.bool false))),p_ 33 38 (m_ 37),aK 34 39 38 true (f_ 15 2),bU 35 40 38 true (l_ 39),aK 36 41 38 true (f_ 15 3),bU 37 42 38 true (l_ 41),qf 38 43 38 true 81 [(.t 40),(.t 42)],p_ 39 44 (.pick (.t 38) (.t 43) (.c (.bool false))),p_ 40 45 (m_ 44),aK 41 46 45 true (f_ 16 2),bU 42 47 45 true (.ld true 2 (.t 46)),aK 43 48 45 true (f_ 16 3),bU 44 49 45 true (.ld true 2 (.t 48)),aK 45 50 45 true (.eqs false 2 (.st [(0,1,false,.int),(1,1,false,.int)]) (.t 47) (.t 49)),p_ 46 51 (.pick (.t 45) (.t 50) (.c (.bool false))),p_ 47 4 (m_ 51)]) .ret))
theorem Zo:bP 62 Zp:=⟨by kernel_rfl,by kernel_rfl⟩
def Zn:XF:=.mk 11 (.one 4) (.seq (g_ 1 [p_ 0 4 (.mv (.c (.str [])))]) (.seq (g_ 7 [p_ 0 5 (m_ 0),c_ 1 6 32 [.t 5],p_ 2 7 (.bin 4 0 (.t 6) (.c (.str [46]))),p_ 3 8 (m_ 1),c_ 4 9 32 [.t 8],p_ 5 10 (.bin 4 0 (.t 7) (.t 9)),p_ 6 4 (m_ 10)]) .ret))
theorem Zm:bP 67 Zn:=⟨by kernel_rfl,by kernel_rfl⟩
def Zl:XF:=.mk 8 (.one 2) (.seq (g_ 1 [p_ 0 2 (.mv (.c .nilS))]) (.seq (.seq (g_ 2 [p_ 0 3 (m_ 0),p_ 1 4 (.isn false 2 (.t 3))]) (.cond (.t 4) (.seq (g_ 1 [p_ 0 2 (.mv (.c .nilS))]) .ret) .skip)) (.seq (g_ 4 [e_ 0 5 (.bsl 103 17 0 [] [] []),p_ 1 6 (m_ 0),e_ 2 7 (.app 103 17 80 (.t 5) (.t 6)),p_ 3 2 (m_ 7)]) .ret)))
theorem Zk:bP 72 Zl:=⟨by kernel_rfl,by kernel_rfl⟩
def Zj:XF:=.mk 11 (.one 4) (.seq (g_ 1 [p_ 0 4 (.mv (.c (.str [])))]) (.seq (g_ 7 [p_ 0 5 (m_ 0),c_ 1 6 32 [.t 5],p_ 2 7 (.bin 4 0 (.t 6) (.c (.str [46]))),p_ 3 8 (m_ 1),c_ 4 9 32 [.t 8],p_ 5 10 (.bin 4 0 (.t 7) (.t 9)),p_ 6 4 (m_ 10)]) .ret))
theorem Zi:bP 73 Zj:=⟨by kernel_rfl,by kernel_rfl⟩
def Zh:XF:=.mk 14 (.cell 2 true 5) (.seq (g_ 2 [e_ 0 1 (.box 150 (.t 0)),e_ 1 2 (.al 154 [(.int 1 (.ofNat 0)),(.int 1 (.ofNat 0)),(.str []),(.str []),(o_ 0)])]) (.seq (g_ 12 [p_ 0 3 (f_ 0 1),r_ 1 4 (l_ 3),p_ 2 5 (f_ 1 1),r_ 3 6 (l_ 5),p_ 4 7 (f_ 2 1),r_ 5 8 (l_ 7),p_ 6 9 (f_ 3 1),r_ 7 10 (l_ 9),p_ 8 11 (f_ 4 1),r_ 9 12 (l_ 11),p_ 10 13 (.bld [(.int 1 (.ofNat 0)),(.int 1 (.ofNat 0)),(.str []),(.str []),(o_ 0)] [(0,1),(1,1),(2,1),(3,1),(4,1)] [(.t 4),(.t 6),(.t 8),(.t 10),(.t 12)]),cA 11 (.st 5 (.t 2) (.t 13))]) .ret))
theorem Zg:bP 74 Zh:=⟨by kernel_rfl,by kernel_rfl⟩
def Zf:XF:=.mk 8 (.one 4) (.seq (g_ 1 [p_ 0 4 (.mv (.c (.bool false)))]) (.seq (g_ 4 [p_ 0 5 (m_ 0),p_ 1 6 (m_ 1),c_ 2 7 86 [(.t 5),(.t 6)],p_ 3 4 (m_ 7)]) .ret))
theorem Ze:bP 76 Zf:=⟨by kernel_rfl,by kernel_rfl⟩
noncomputable def Sw (f:Nat):Option XF:=(Bool.rec (Bool.rec (Bool.rec (Bool.rec (Bool.rec (Bool.rec (Bool.rec none (some Zf) (Nat.beq f 76)) (Bool.rec none (some Zh) (Nat.beq f 74)) (Nat.blt f 76)) (Bool.rec none (some Zj) (Nat.beq f 73)) (Nat.blt f 74)) (Bool.rec (Bool.rec none (some Zl) (Nat.beq f 72)) (Bool.rec none (some Zn) (Nat.beq f 67)) (Nat.blt f 72)) (Nat.blt f 73)) (Bool.rec (Bool.rec (Bool.rec none (some Zp) (Nat.beq f 62)) (Bool.rec none (some Zr) (Nat.beq f 60)) (Nat.blt f 62)) (Bool.rec (Bool.rec none (some Zt) (Nat.beq f 59)) (Bool.rec none (some Zv) (Nat.beq f 58)) (Nat.blt f 59)) (Nat.blt f 60)) (Nat.blt f 67)) (Bool.rec (Bool.rec (Bool.rec (Bool.rec none (some Zx) (Nat.beq f 57)) (Bool.rec none (some Zz) (Nat.beq f 56)) (Nat.blt f 57)) (Bool.rec (Bool.rec none (some ZB) (Nat.beq f 55)) (Bool.rec none (some ZD) (Nat.beq f 53)) (Nat.blt f 55)) (Nat.blt f 56)) (Bool.rec (Bool.rec (Bool.rec none (some ZF) (Nat.beq f 52)) (Bool.rec none (some ZH) (Nat.beq f 51)) (Nat.blt f 52)) (Bool.rec (Bool.rec none (some ZJ) (Nat.beq f 50)) (Bool.rec none (some ZL) (Nat.beq f 48)) (Nat.blt f 50)) (Nat.blt f 51)) (Nat.blt f 53)) (Nat.blt f 58)) (Bool.rec (Bool.rec (Bool.rec (Bool.rec (Bool.rec (Bool.rec none (some ZN) (Nat.beq f 47)) (Bool.rec none (some ZP) (Nat.beq f 46)) (Nat.blt f 47)) (Bool.rec none (some ZR) (Nat.beq f 45)) (Nat.blt f 46)) (Bool.rec (Bool.rec none (some ZT) (Nat.beq f 43)) (Bool.rec none (some ZV) (Nat.beq f 41)) (Nat.blt f 43)) (Nat.blt f 45)) (Bool.rec (Bool.rec (Bool.rec none (some ZX) (Nat.beq f 40)) (Bool.rec none (some ZZ) (Nat.beq f 38)) (Nat.blt f 40)) (Bool.rec (Bool.rec none (some aab) (Nat.beq f 37)) (Bool.rec none (some aad) (Nat.beq f 31)) (Nat.blt f 37)) (Nat.blt f 38)) (Nat.blt f 41)) (Bool.rec (Bool.rec (Bool.rec (Bool.rec none (some aaf) (Nat.beq f 24)) (Bool.rec none (some aah) (Nat.beq f 22)) (Nat.blt f 24)) (Bool.rec (Bool.rec none (some aaj) (Nat.beq f 20)) (Bool.rec none (some aal) (Nat.beq f 18)) (Nat.blt f 20)) (Nat.blt f 22)) (Bool.rec (Bool.rec (Bool.rec none (some aan) (Nat.beq f 16)) (Bool.rec none (some aap) (Nat.beq f 15)) (Nat.blt f 16)) (Bool.rec (Bool.rec none (some aar) (Nat.beq f 11)) (Bool.rec none (some tl6) (Nat.beq f 6)) (Nat.blt f 11)) (Nat.blt f 15)) (Nat.blt f 18)) (Nat.blt f 31)) (Nat.blt f 48))
theorem cg {f n:Nat} {x y:XF} (hy:bP n y) (h:(Bool.rec (motive:=fun _=>Option XF) none (some y) (Nat.beq f n))=some x):bP f x:=by
 cases hb:Nat.beq f n with
 |false=>rw[hb]at h;cases h
 |true=>rw[hb]at h;cases h;rw[Nat.eq_of_beq_eq_true hb];exact hy
theorem cm {f n:Nat} {a b:Option XF} {x:XF} (ha:a=some x→bP f x) (hb:b=some x→bP f x) (h:(Bool.rec (motive:=fun _=>Option XF) a b (Nat.blt f n))=some x):bP f x:=by
 cases hc:Nat.blt f n with
 |false=>rw[hc]at h;exact ha h
 |true=>rw[hc]at h;exact hb h
theorem Zd (f:Nat) (x:XF) (h:Sw f=some x):bT Tryz.prog f x=true∧plain (mF x)=true:=(cm (cm (cm (cm (cm (cm (cg Ze) (cg Zg)) (cg Zi)) (cm (cg Zk) (cg Zm))) (cm (cm (cg Zo) (cg Zq)) (cm (cg Zs) (cg Zu)))) (cm (cm (cm (cg Zw) (cg Zy)) (cm (cg ZA) (cg ZC))) (cm (cm (cg ZE) (cg ZG)) (cm (cg ZI) (cg ZK))))) (cm (cm (cm (cm (cm (cg ZM) (cg ZO)) (cg ZQ)) (cm (cg ZS) (cg ZU))) (cm (cm (cg ZW) (cg ZY)) (cm (cg aaa) (cg aac)))) (cm (cm (cm (cg aae) (cg aag)) (cm (cg aai) (cg aak))) (cm (cm (cg aam) (cg aao)) (cm (cg aaq) (cg ab2)))))) h
theorem bv:Tryz.prog.follows .mixedOrders=true:=by kernel_rfl
end Go.Proofs.Tryz
namespace Go.Proofs.Tryz
open Go.Proofs.YtdangmomddpegaaGreatDoor (xU uM uL BM xT uK xW BL xV BK xS uN)
open Go Go.RowKit Go.Sy
open Go.Eng hiding aA
set_option maxRecDepth 1000000
set_option linter.unusedVariables false
set_option maxHeartbeats 4000000
theorem Iw {P:Program} {f k:Nat}:cY P f k (fun _ _ _ _=>false):=fun us xs E ρ G F M nx w K R _ _ _ h=>by cases h
noncomputable def qD (b:List AV→T→Bool) (sA sB:dC):dC:=fun us M nx K=>Bool.rec (sB us M nx K) (sA us M nx K) (b us M)
theorem iT {P:Program} {f k:Nat} {sA sB:dC} {b:List AV→T→Bool} (hA:cY P f k sA) (hB:cY P f k sB):cY P f k (qD b sA sB):=by
 intro us xs E ρ G F M nx w K R h1 h2 h3 h4
 have h4:(Bool.rec (motive:=fun _=>Bool) (sB us M nx K) (sA us M nx K) (b us M):Bool)=true:=h4
 cases hb:b us M with
 |true=>rw[hb]at h4;exact hA us xs E ρ G F M nx w K R h1 h2 h3 h4
 |false=>rw[hb]at h4;exact hB us xs E ρ G F M nx w K R h1 h2 h3 h4
abbrev KE:=AV→T→Nat→Bool
abbrev IE:=List AV×T×Nat
abbrev IL:=SL×T×Nat
noncomputable def ce {α:Type} (I:α→IE) (sp:α→KE→Bool):dC:=fun us M nx K=>aI fun p:α=>ac (au ((us,M,nx)=I p)) (sp p K)
theorem bV {P:Program} (hm:P.follows .mixedOrders=true) {cf:kX} (hcf:mL P cf) {lp:ft} {lf f k:Nat} {xf:XF} {α:Type} {I:α→IE} {sp:α→KE→Bool} (hf:bT P f xf=true) (hkp:iQ k (mF xf)=true) (hlp:∀b j x,(b,j,x)∈gL (mF xf)→dI P (nOf xf) k lp b j x)
  (h:∀p K,sp p K=true→bZ k cf lp lf xf (I p).1 (I p).2.1 (I p).2.2 K=true):cY P f k (ce I sp):=
 XU hm hcf hf hkp hlp fun us M nx K hk=>by
  obtain⟨p,h1⟩:=bL hk
  obtain⟨e,h2⟩:=aa h1
  have h3:=h p K h2
  rw[←e]at h3
  exact h3
noncomputable def dD {α:Type} (pre:α→Prop) (out:α→KE→Bool) (p:α) (K:KE):Bool:=ac (au (pre p)) (out p K)
noncomputable def bM (prev:Nat→List AV→Option ES) (k:Nat) (es:dC) (g:Nat) (l:List (Nat×Nat)) (f:Nat) (vs:List AV):Option ES:=Bool.rec (prev f vs) (some (.mk k es)) (QR f g vs l)
def be (P:Program) (nat:Nat→List AV→Option ES):Prop:=∀f vs k sp,nat f vs=some (.mk k sp)→cY P f k sp
theorem aY {P:Program} {prev:Nat→List AV→Option ES} {k g:Nat} {es:dC} {l:List (Nat×Nat)} (h1:cY P g k es) (h2:be P prev):be P (bM prev k es g l):=fun f vs k' sp h=>Vk h1 (h2 f vs k' sp) h
noncomputable def aa4:Nat→List AV→Option ES:=fun _ _=>none
theorem XW {P:Program}:be P aa4:=fun _ _ _ _ h=>by cases h
noncomputable def dT:ft:=fun _ _ _ _ _=>false
noncomputable def qI (k:Nat) (z:Int):Bool:=au ((SY.int k z)= .int k z)
noncomputable def qS (l:List UInt8):Bool:=au ((SY.str l)= .str l)
noncomputable def qY (x:SY):Bool:=au (x=x)
noncomputable def qL (l:List Bool):Bool:=List.rec true (fun a _ r=>Bool.and a r) l
noncomputable def mP (p:Prop) (b:Bool):Bool:=ac (au p) b
noncomputable def iP (p:Prop) (x y:Bool):Bool:=bn (au p) x y
theorem mI {p:Prop} {b:Bool} (h:p) (k:b=true):mP p b=true:=bf h k
theorem bq {p:Prop} {b:Bool} (k:b=true) (h:p:=by(try simp only[acC,acE,acD,acF]);omega):mP p b=true:=bf h k
theorem aN {p:Prop} {b:Bool} (k:b=true) (h:p:=by simp only[aL];omega):mP p b=true:=bf h k
theorem cz {p:Prop} {b:Bool} (k:b=true) (h:p:=by simp[aC,aD]<;>omega):mP p b=true:=bf h k
theorem dL {p:Prop} {b:Bool} (k:b=true) (h:p:=by first|omega|(constructor<;>omega)):mP p b=true:=bf h k
theorem li {p:Prop} {b:Bool} (k:b=true) (h:p:=by simp only[dh,acD,acF];omega):mP p b=true:=bf h k
theorem AQ {p:Prop} {b:Bool} (k:b=true) (h:p:=by(try simp only[acC,acE,acD,acF,dQ,dP,dO,dN]);omega):mP p b=true:=bf h k
theorem fX {p:Prop} {b:Bool} (k:b=true) (h:p:=by omega):mP p b=true:=bf h k
theorem lh {p:Prop} {b:Bool} (k:b=true) (h:p:=by simp):mP p b=true:=bf h k
theorem az {p:Prop} {b:Bool} (k:b=true) (h:p:=by exact rfl):mP p b=true:=bf h k
theorem LN {p:Prop} {b:Bool} (k:b=true) (h:p:=by assumption):mP p b=true:=bf h k
theorem jN {p:Prop} {b:Bool} (k:b=true) (h:p:=by refine⟨?_,trivial⟩;repeat(first|exact trivial|refine⟨.inl rfl,?_⟩)):mP p b=true:=bf h k
abbrev t_0:List UInt8:=([32]:List Nat).map ac0
abbrev bm:List UInt8:=([99,97,108,108]:List Nat).map ac0
abbrev t_2:List UInt8:=([58]:List Nat).map ac0
abbrev t_3:List UInt8:=([46]:List Nat).map ac0
abbrev t_4:List UInt8:=([47]:List Nat).map ac0
abbrev dv:List UInt8:=([111,114,100,101,114]:List Nat).map ac0
abbrev eB:List UInt8:=([111,112,101,110]:List Nat).map ac0
abbrev t_7:List UInt8:=([91]:List Nat).map ac0
abbrev t_8:List UInt8:=([93]:List Nat).map ac0
abbrev t_9:List UInt8:=([10]:List Nat).map ac0
abbrev ff:List UInt8:=([48]:List Nat).map ac0
abbrev t_11:List UInt8:=([41]:List Nat).map ac0
abbrev t_12:List UInt8:=([99,97,108,108,32]:List Nat).map ac0
abbrev jP:List UInt8:=([97,108,108]:List Nat).map ac0
abbrev t_14:List UInt8:=([58,32]:List Nat).map ac0
abbrev t_15:List UInt8:=([111,114,100,101,114,32]:List Nat).map ac0
abbrev t_16:List UInt8:=([87,114,105,116,101,40]:List Nat).map ac0
abbrev t_17:List UInt8:=([65,100,100,40]:List Nat).map ac0
abbrev t_18:List UInt8:=([84,97,107,101,40]:List Nat).map ac0
abbrev pE:List UInt8:=([49]:List Nat).map ac0
abbrev pD:List UInt8:=([50]:List Nat).map ac0
abbrev pC:List UInt8:=([51]:List Nat).map ac0
abbrev qE:List UInt8:=([]:List Nat).map ac0
abbrev t_23:List UInt8:=([82,101,97,100,40]:List Nat).map ac0
abbrev t_24:List UInt8:=([61]:List Nat).map ac0
abbrev t_25:List UInt8:=([43]:List Nat).map ac0
abbrev t_26:List UInt8:=([45]:List Nat).map ac0
abbrev t_27:List UInt8:=([69,114,97,115,101,40]:List Nat).map ac0
abbrev t_28:List UInt8:=([67,104,101,99,107,32]:List Nat).map ac0
abbrev t_29:List UInt8:=([67,97,108,108,32]:List Nat).map ac0
abbrev t_30:List UInt8:=([75,105,108,108,32]:List Nat).map ac0
abbrev t_31:List UInt8:=([63]:List Nat).map ac0
abbrev t_32:List UInt8:=([66,97,99,107,32]:List Nat).map ac0
abbrev HW:List UInt8:=([111,100,100]:List Nat).map ac0
abbrev t_34:List UInt8:=([32,91]:List Nat).map ac0
abbrev Qi:List UInt8:=([99,97,108,108,32,57,46,49,47,49,32,97,108,108,32,48,32,111,112,101,110,10]:List Nat).map ac0
abbrev Qh:List UInt8:=([102,105,114,115,116]:List Nat).map ac0
abbrev Qg:List UInt8:=([109,97,106,111,114,105,116,121]:List Nat).map ac0
abbrev t_38:List UInt8:=([32,111,112,101,110,10]:List Nat).map ac0
theorem iI {p:Prop} {x y:Bool} (h:p→x=true) (k:¬p→y=true):iP p x y=true:=ifP h k
noncomputable def aX {α β R:Type _} (s:β) (I:α→β) (pre:α→Prop) (po:α→R→Prop) (k:α→R→Bool):Bool:=aI fun p=>mP (s=I p) (mP (pre p) (aA fun r=>iP (po p r) (k p r) true))
theorem aJ {α β R:Type _} {s:β} {I:α→β} {pre:α→Prop} {po:α→R→Prop} {k:α→R→Bool} (w:α) (h1:s=I w) (h2:pre w) (h3:∀r,po w r→k w r=true):aX s I pre po k=true:=
 aG w (bf h1 (bf h2 (aB fun r=>ifP (h3 r) fun _=>rfl)))
theorem qh {α R:Type} {e:α→Prop} {po:α→R→Prop} {k:α→R→Bool} (w:α) (h1:e w) (h3:∀r,po w r→k w r=true):(aI fun p=>mP (e p) (aA fun r=>iP (po p r) (k p r) true))=true:=
 aG w (bf h1 (aB fun r=>ifP (h3 r) fun _=>rfl))
theorem dG {α:Type} {e pre:α→Prop} {k:α→Bool} (w:α) (h1:e w) (h2:pre w) (h3:k w=true):(aI fun p=>mP (e p) (mP (pre p) (k p)))=true:=aG w (bf h1 (bf h2 h3))
noncomputable abbrev bH (nat:Nat→List AV→Option ES):kX:=RA Sw nat dT 600 40
theorem aT {nat:Nat→List AV→Option ES} (h:be Tryz.prog nat):mL Tryz.prog (bH nat):=Nc (lp:=dT) (lf:=600) bv Zd h 40
theorem cX {nat:Nat→List AV→Option ES} (hcf:mL Tryz.prog (bH nat)) {f k:Nat} {xf:XF} {α:Type} {I:α→IE} {pre:α→Prop} {out:α→KE→Bool} (hf:bT Tryz.prog f xf=true) (hkp:iQ k (mF xf)=true) (hlp:gL (mF xf)=[])
  (h:∀p K,pre p→out p K=true→bZ k (bH nat) dT 600 xf (I p).1 (I p).2.1 (I p).2.2 K=true):cY Tryz.prog f k (ce I (dD pre out)):=
 bV (lp:=dT) (lf:=600) bv hcf hf hkp (fun b j x h=>by rw[hlp]at h;cases h) fun p K hk=>h p K (aa hk).1 (aa hk).2
theorem Dd {nat:Nat→List AV→Option ES} (hcf:mL Tryz.prog (bH nat)) {f k:Nat} {xf:XF} {α:Type} {I:α→IE} {out:α→KE→Bool} (hf:bT Tryz.prog f xf=true) (hkp:iQ k (mF xf)=true) (hlp:gL (mF xf)=[])
  (h:∀p K,out p K=true→bZ k (bH nat) dT 600 xf (I p).1 (I p).2.1 (I p).2.2 K=true):cY Tryz.prog f k (ce I out):=
 bV (lp:=dT) (lf:=600) bv hcf hf hkp (fun b j x h=>by rw[hlp]at h;cases h) h
structure aW where
 g:Int
 k:Int
 key:List UInt8
 val:List UInt8
 n:Int
structure bg where
 key:List UInt8
 val:List UInt8
 has:Prop
structure BgR where
 id:ID
 g:Int
 mode:Int
 at_:Int
 hp:Value
 ps:List aW
structure EdR where
 id:ID
 g:Int
 mode:Int
 begun:Int
 at_:Int
 code:Int
 rc:Int
 rv:List UInt8
structure cL where
 who:Proc
 id:ID
 rc:Int
 rv:List UInt8
 vg:Int
 vn:Int
 hm:Value
 ms:List Proc
structure cM where
 who:Proc
 vg:Int
 vn:Int
 hm:Value
 ms:List Proc
structure ai where
 kind:Int
 id:ID
 floor:Int
 hp:Value
 ps:List aW
 rc:Int
 rv:List UInt8
 hw:Value
 ws:List bg
 vic:Proc
structure ez where
 kind:Int
 at_:Int
 g:Int
 b:BgR
 e:EdR
 t:cL
 s:cM
 l:ai
structure eD where
 who:Proc
 id:ID
 rc:Int
 rv:List UInt8
 vg:Int
 vn:Int
structure eI where
 who:Proc
 vg:Int
 vn:Int
structure bE where
 mb:List ID
 b:List BgR
 me:List ID
 e:List EdR
 mt:List eD
 t:List cL
 ms:List eI
 s:List cM
 o0:List ai
 o1:List ai
 o2:List ai
 o3:List ai
 sp:Int
structure bW where
 b:List BgR
 e:List EdR
 t:List cL
 s:List cM
 o0:List ai
 o1:List ai
 o2:List ai
 o3:List ai
 sp:Int
def encP (x:aW):List PL:=[.sint 1 x.g,.sint 1 x.k,.sstr x.key,.sstr x.val,.sint 0 x.n]
def bb (x:bg):List PL:=[.sstr x.key,.sstr x.val,.sbool x.has]
def bJ (x:Proc):List PL:=[.sint 1 x.node,.sint 2 x.life]
def bG (x:ID):List PL:=[.sint 1 x.client.node,.sint 2 x.client.life,.sint 3 x.seq,.sint 1 x.depth,.sint 1 x.p0.group,.sint 1 x.p0.index,.sint 1 x.p1.group,.sint 1 x.p1.index,.sint 1 x.p2.group,.sint 1 x.p2.index]
def bo (x:BgR):List PL:=[.sint 1 x.id.client.node,.sint 2 x.id.client.life,.sint 3 x.id.seq,.sint 1 x.id.depth,.sint 1 x.id.p0.group,.sint 1 x.id.p0.index,.sint 1 x.id.p1.group,.sint 1 x.id.p1.index,.sint 1 x.id.p2.group,.sint 1 x.id.p2.index,.sint 1 x.g,.sint 0 x.mode,.sint 0 x.at_,.imm x.hp 5 aW x.ps encP]
def bA (x:EdR):List PL:=[.sint 1 x.id.client.node,.sint 2 x.id.client.life,.sint 3 x.id.seq,.sint 1 x.id.depth,.sint 1 x.id.p0.group,.sint 1 x.id.p0.index,.sint 1 x.id.p1.group,.sint 1 x.id.p1.index,.sint 1 x.id.p2.group,.sint 1 x.id.p2.index,.sint 1 x.g,.sint 0 x.mode,.sint 0 x.begun,.sint 0 x.at_,.sint 0 x.code,.sint 1 x.rc,.sstr x.rv]
def co (x:cL):List PL:=[.sint 1 x.who.node,.sint 2 x.who.life,.sint 1 x.id.client.node,.sint 2 x.id.client.life,.sint 3 x.id.seq,.sint 1 x.id.depth,.sint 1 x.id.p0.group,.sint 1 x.id.p0.index,.sint 1 x.id.p1.group,.sint 1 x.id.p1.index,.sint 1 x.id.p2.group,.sint 1 x.id.p2.index,.sint 1 x.rc,.sstr x.rv,.sint 1 x.vg,.sint 3 x.vn,.imm x.hm 2 Proc x.ms bJ]
def cp (x:cM):List PL:=[.sint 1 x.who.node,.sint 2 x.who.life,.sint 1 x.vg,.sint 3 x.vn,.imm x.hm 2 Proc x.ms bJ]
def am (x:ai):List PL:=[.sint 1 x.kind,.sint 1 x.id.client.node,.sint 2 x.id.client.life,.sint 3 x.id.seq,.sint 1 x.id.depth,.sint 1 x.id.p0.group,.sint 1 x.id.p0.index,.sint 1 x.id.p1.group,.sint 1 x.id.p1.index,.sint 1 x.id.p2.group,.sint 1 x.id.p2.index,.sint 3 x.floor,.imm x.hp 5 aW x.ps encP,.sint 1 x.rc,.sstr x.rv,.imm x.hw 3 bg x.ws bb,.sint 1 x.vic.node,.sint 2 x.vic.life]
def gM (x:ez):List PL:=[.sint 0 x.kind,.sint 0 x.at_,.sint 1 x.g,.sint 1 x.b.id.client.node,.sint 2 x.b.id.client.life,.sint 3 x.b.id.seq,.sint 1 x.b.id.depth,.sint 1 x.b.id.p0.group,.sint 1 x.b.id.p0.index,.sint 1 x.b.id.p1.group,.sint 1 x.b.id.p1.index,.sint 1 x.b.id.p2.group,.sint 1 x.b.id.p2.index,.sint 1 x.b.g,.sint 0 x.b.mode,.sint 0 x.b.at_,.imm x.b.hp 5 aW x.b.ps encP,.sint 1 x.e.id.client.node,.sint 2 x.e.id.client.life,.sint 3 x.e.id.seq,.sint 1 x.e.id.depth,.sint 1 x.e.id.p0.group,.sint 1 x.e.id.p0.index,.sint 1 x.e.id.p1.group,.sint 1 x.e.id.p1.index,.sint 1 x.e.id.p2.group,.sint 1 x.e.id.p2.index,.sint 1 x.e.g,.sint 0 x.e.mode,.sint 0 x.e.begun,.sint 0 x.e.at_,.sint 0 x.e.code,.sint 1 x.e.rc,.sstr x.e.rv,.sint 1 x.t.who.node,.sint 2 x.t.who.life,.sint 1 x.t.id.client.node,.sint 2 x.t.id.client.life,.sint 3 x.t.id.seq,.sint 1 x.t.id.depth,.sint 1 x.t.id.p0.group,.sint 1 x.t.id.p0.index,.sint 1 x.t.id.p1.group,.sint 1 x.t.id.p1.index,.sint 1 x.t.id.p2.group,.sint 1 x.t.id.p2.index,.sint 1 x.t.rc,.sstr x.t.rv,.sint 1 x.t.vg,.sint 3 x.t.vn,.imm x.t.hm 2 Proc x.t.ms bJ,.sint 1 x.s.who.node,.sint 2 x.s.who.life,.sint 1 x.s.vg,.sint 3 x.s.vn,.imm x.s.hm 2 Proc x.s.ms bJ,.sint 1 x.l.kind,.sint 1 x.l.id.client.node,.sint 2 x.l.id.client.life,.sint 3 x.l.id.seq,.sint 1 x.l.id.depth,.sint 1 x.l.id.p0.group,.sint 1 x.l.id.p0.index,.sint 1 x.l.id.p1.group,.sint 1 x.l.id.p1.index,.sint 1 x.l.id.p2.group,.sint 1 x.l.id.p2.index,.sint 3 x.l.floor,.imm x.l.hp 5 aW x.l.ps encP,.sint 1 x.l.rc,.sstr x.l.rv,.imm x.l.hw 3 bg x.l.ws bb,.sint 1 x.l.vic.node,.sint 2 x.l.vic.life]
def dZ (x:eD):List PL:=[.sint 1 x.who.node,.sint 2 x.who.life,.sint 1 x.id.client.node,.sint 2 x.id.client.life,.sint 3 x.id.seq,.sint 1 x.id.depth,.sint 1 x.id.p0.group,.sint 1 x.id.p0.index,.sint 1 x.id.p1.group,.sint 1 x.id.p1.index,.sint 1 x.id.p2.group,.sint 1 x.id.p2.index,.sint 1 x.rc,.sstr x.rv,.sint 1 x.vg,.sint 3 x.vn]
def ed (x:eI):List PL:=[.sint 1 x.who.node,.sint 2 x.who.life,.sint 1 x.vg,.sint 3 x.vn]
def bw (x:ID):List PL:=[.bool true]
def cO (x:eD):List PL:=[.bool true]
def cP (x:eI):List PL:=[.bool true]
theorem tk {α:Type} {l:List α} {i:Nat} {x:α} (h:l[i]?=some x):l.take i++[x]=l.take (i+1):=by rw[List.take_add_one,h];rfl
def dj {α:Type} (d y:α):Prop:=y=d
theorem WQ {x y:ID} (h0:x.client.node=y.client.node) (h1:x.client.life=y.client.life) (h2:x.seq=y.seq) (h3:x.depth=y.depth) (h4:x.p0.group=y.p0.group) (h5:x.p0.index=y.p0.index) (h6:x.p1.group=y.p1.group) (h7:x.p1.index=y.p1.index) (h8:x.p2.group=y.p2.group) (h9:x.p2.index=y.p2.index):y=x:=by
 obtain⟨⟨a0,a1⟩,a2,a3,⟨a4,a5⟩,⟨a6,a7⟩,⟨a8,a9⟩⟩:=x
 obtain⟨⟨b0,b1⟩,b2,b3,⟨b4,b5⟩,⟨b6,b7⟩,⟨b8,b9⟩⟩:=y
 simp only at h0 h1 h2 h3 h4 h5 h6 h7 h8 h9
 subst h0 h1 h2 h3 h4 h5 h6 h7 h8 h9
 rfl
noncomputable def jV (x y:ID) (Q:Prop):Bool:=iP (x.client.node=y.client.node) (iP (x.client.life=y.client.life) (iP (x.seq=y.seq) (iP (x.depth=y.depth) (iP (x.p0.group=y.p0.group) (iP (x.p0.index=y.p0.index) (iP (x.p1.group=y.p1.group) (iP (x.p1.index=y.p1.index) (iP (x.p2.group=y.p2.group) (iP (x.p2.index=y.p2.index) (au Q) (au (¬Q))) (au (¬Q))) (au (¬Q))) (au (¬Q))) (au (¬Q))) (au (¬Q))) (au (¬Q))) (au (¬Q))) (au (¬Q))) (au (¬Q))
theorem gE {x y:ID}:jV x y (dj x y)=true:=by
 unfold jV
 refine iI (fun h0=> ?_) (fun h=>prB_true.2 (fun e=>h (by rw[show y=x from e])))
 refine iI (fun h1=> ?_) (fun h=>prB_true.2 (fun e=>h (by rw[show y=x from e])))
 refine iI (fun h2=> ?_) (fun h=>prB_true.2 (fun e=>h (by rw[show y=x from e])))
 refine iI (fun h3=> ?_) (fun h=>prB_true.2 (fun e=>h (by rw[show y=x from e])))
 refine iI (fun h4=> ?_) (fun h=>prB_true.2 (fun e=>h (by rw[show y=x from e])))
 refine iI (fun h5=> ?_) (fun h=>prB_true.2 (fun e=>h (by rw[show y=x from e])))
 refine iI (fun h6=> ?_) (fun h=>prB_true.2 (fun e=>h (by rw[show y=x from e])))
 refine iI (fun h7=> ?_) (fun h=>prB_true.2 (fun e=>h (by rw[show y=x from e])))
 refine iI (fun h8=> ?_) (fun h=>prB_true.2 (fun e=>h (by rw[show y=x from e])))
 refine iI (fun h9=> ?_) (fun h=>prB_true.2 (fun e=>h (by rw[show y=x from e])))
 exact prB_true.2 (WQ h0 h1 h2 h3 h4 h5 h6 h7 h8 h9)
theorem aby {x y:eD} (h0:x.who.node=y.who.node) (h1:x.who.life=y.who.life) (h2:x.id.client.node=y.id.client.node) (h3:x.id.client.life=y.id.client.life) (h4:x.id.seq=y.id.seq) (h5:x.id.depth=y.id.depth) (h6:x.id.p0.group=y.id.p0.group) (h7:x.id.p0.index=y.id.p0.index) (h8:x.id.p1.group=y.id.p1.group) (h9:x.id.p1.index=y.id.p1.index) (h10:x.id.p2.group=y.id.p2.group) (h11:x.id.p2.index=y.id.p2.index) (h12:x.rc=y.rc) (h13:x.rv=y.rv) (h14:x.vg=y.vg) (h15:x.vn=y.vn):y=x:=by
 obtain⟨⟨a0,a1⟩,⟨⟨a2,a3⟩,a4,a5,⟨a6,a7⟩,⟨a8,a9⟩,⟨a10,a11⟩⟩,a12,a13,a14,a15⟩:=x
 obtain⟨⟨b0,b1⟩,⟨⟨b2,b3⟩,b4,b5,⟨b6,b7⟩,⟨b8,b9⟩,⟨b10,b11⟩⟩,b12,b13,b14,b15⟩:=y
 simp only at h0 h1 h2 h3 h4 h5 h6 h7 h8 h9 h10 h11 h12 h13 h14 h15
 subst h0 h1 h2 h3 h4 h5 h6 h7 h8 h9 h10 h11 h12 h13 h14 h15
 rfl
noncomputable def DC (x y:eD) (Q:Prop):Bool:=iP (x.who.node=y.who.node) (iP (x.who.life=y.who.life) (iP (x.id.client.node=y.id.client.node) (iP (x.id.client.life=y.id.client.life) (iP (x.id.seq=y.id.seq) (iP (x.id.depth=y.id.depth) (iP (x.id.p0.group=y.id.p0.group) (iP (x.id.p0.index=y.id.p0.index) (iP (x.id.p1.group=y.id.p1.group) (iP (x.id.p1.index=y.id.p1.index) (iP (x.id.p2.group=y.id.p2.group) (iP (x.id.p2.index=y.id.p2.index) (iP (x.rc=y.rc) (iP (x.rv=y.rv) (iP (x.vg=y.vg) (iP (x.vn=y.vn) (au Q) (au (¬Q))) (au (¬Q))) (au (¬Q))) (au (¬Q))) (au (¬Q))) (au (¬Q))) (au (¬Q))) (au (¬Q))) (au (¬Q))) (au (¬Q))) (au (¬Q))) (au (¬Q))) (au (¬Q))) (au (¬Q))) (au (¬Q))) (au (¬Q))
theorem Hx {x y:eD}:DC x y (dj x y)=true:=by
 unfold DC
 refine iI (fun h0=> ?_) (fun h=>prB_true.2 (fun e=>h (by rw[show y=x from e])))
 refine iI (fun h1=> ?_) (fun h=>prB_true.2 (fun e=>h (by rw[show y=x from e])))
 refine iI (fun h2=> ?_) (fun h=>prB_true.2 (fun e=>h (by rw[show y=x from e])))
 refine iI (fun h3=> ?_) (fun h=>prB_true.2 (fun e=>h (by rw[show y=x from e])))
 refine iI (fun h4=> ?_) (fun h=>prB_true.2 (fun e=>h (by rw[show y=x from e])))
 refine iI (fun h5=> ?_) (fun h=>prB_true.2 (fun e=>h (by rw[show y=x from e])))
 refine iI (fun h6=> ?_) (fun h=>prB_true.2 (fun e=>h (by rw[show y=x from e])))
 refine iI (fun h7=> ?_) (fun h=>prB_true.2 (fun e=>h (by rw[show y=x from e])))
 refine iI (fun h8=> ?_) (fun h=>prB_true.2 (fun e=>h (by rw[show y=x from e])))
 refine iI (fun h9=> ?_) (fun h=>prB_true.2 (fun e=>h (by rw[show y=x from e])))
 refine iI (fun h10=> ?_) (fun h=>prB_true.2 (fun e=>h (by rw[show y=x from e])))
 refine iI (fun h11=> ?_) (fun h=>prB_true.2 (fun e=>h (by rw[show y=x from e])))
 refine iI (fun h12=> ?_) (fun h=>prB_true.2 (fun e=>h (by rw[show y=x from e])))
 refine iI (fun h13=> ?_) (fun h=>prB_true.2 (fun e=>h (by rw[show y=x from e])))
 refine iI (fun h14=> ?_) (fun h=>prB_true.2 (fun e=>h (by rw[show y=x from e])))
 refine iI (fun h15=> ?_) (fun h=>prB_true.2 (fun e=>h (by rw[show y=x from e])))
 exact prB_true.2 (aby h0 h1 h2 h3 h4 h5 h6 h7 h8 h9 h10 h11 h12 h13 h14 h15)
theorem abA {x y:eI} (h0:x.who.node=y.who.node) (h1:x.who.life=y.who.life) (h2:x.vg=y.vg) (h3:x.vn=y.vn):y=x:=by
 obtain⟨⟨a0,a1⟩,a2,a3⟩:=x
 obtain⟨⟨b0,b1⟩,b2,b3⟩:=y
 simp only at h0 h1 h2 h3
 subst h0 h1 h2 h3
 rfl
noncomputable def DD (x y:eI) (Q:Prop):Bool:=iP (x.who.node=y.who.node) (iP (x.who.life=y.who.life) (iP (x.vg=y.vg) (iP (x.vn=y.vn) (au Q) (au (¬Q))) (au (¬Q))) (au (¬Q))) (au (¬Q))
theorem Hy {x y:eI}:DD x y (dj x y)=true:=by
 unfold DD
 refine iI (fun h0=> ?_) (fun h=>prB_true.2 (fun e=>h (by rw[show y=x from e])))
 refine iI (fun h1=> ?_) (fun h=>prB_true.2 (fun e=>h (by rw[show y=x from e])))
 refine iI (fun h2=> ?_) (fun h=>prB_true.2 (fun e=>h (by rw[show y=x from e])))
 refine iI (fun h3=> ?_) (fun h=>prB_true.2 (fun e=>h (by rw[show y=x from e])))
 exact prB_true.2 (abA h0 h1 h2 h3)
theorem Yv {x y:Proc} (h0:x.node=y.node) (h1:x.life=y.life):y=x:=by
 obtain⟨a0,a1⟩:=x
 obtain⟨b0,b1⟩:=y
 simp only at h0 h1
 subst h0 h1
 rfl
theorem abz {x y:aW} (h0:x.g=y.g) (h1:x.k=y.k) (h2:x.key=y.key) (h3:x.val=y.val) (h4:x.n=y.n):y=x:=by
 obtain⟨a0,a1,a2,a3,a4⟩:=x
 obtain⟨b0,b1,b2,b3,b4⟩:=y
 simp only at h0 h1 h2 h3 h4
 subst h0 h1 h2 h3 h4
 rfl
noncomputable def sH (x y:ID) (A B:Bool):Bool:=iP (x.client.node=y.client.node) (iP (x.client.life=y.client.life) (iP (x.seq=y.seq) (iP (x.depth=y.depth) (iP (x.p0.group=y.p0.group) (iP (x.p0.index=y.p0.index) (iP (x.p1.group=y.p1.group) (iP (x.p1.index=y.p1.index) (iP (x.p2.group=y.p2.group) (iP (x.p2.index=y.p2.index) (A) B) B) B) B) B) B) B) B) B) B
theorem pm {x y:ID} {A B:Bool} (hA:x=y→A=true) (hB:¬x=y→B=true):sH x y A B=true:=by
 unfold sH
 refine iI (fun h0=> ?_) (fun h=>hB (fun e=>h (by rw[e])))
 refine iI (fun h1=> ?_) (fun h=>hB (fun e=>h (by rw[e])))
 refine iI (fun h2=> ?_) (fun h=>hB (fun e=>h (by rw[e])))
 refine iI (fun h3=> ?_) (fun h=>hB (fun e=>h (by rw[e])))
 refine iI (fun h4=> ?_) (fun h=>hB (fun e=>h (by rw[e])))
 refine iI (fun h5=> ?_) (fun h=>hB (fun e=>h (by rw[e])))
 refine iI (fun h6=> ?_) (fun h=>hB (fun e=>h (by rw[e])))
 refine iI (fun h7=> ?_) (fun h=>hB (fun e=>h (by rw[e])))
 refine iI (fun h8=> ?_) (fun h=>hB (fun e=>h (by rw[e])))
 refine iI (fun h9=> ?_) (fun h=>hB (fun e=>h (by rw[e])))
 exact hA (WQ h0 h1 h2 h3 h4 h5 h6 h7 h8 h9).symm
noncomputable def qZ (x y:Proc) (A B:Bool):Bool:=iP (x.node=y.node) (iP (x.life=y.life) (A) B) B
theorem rN {x y:Proc} {A B:Bool} (hA:x=y→A=true) (hB:¬x=y→B=true):qZ x y A B=true:=by
 unfold qZ
 refine iI (fun h0=> ?_) (fun h=>hB (fun e=>h (by rw[e])))
 refine iI (fun h1=> ?_) (fun h=>hB (fun e=>h (by rw[e])))
 exact hA (Yv h0 h1).symm
noncomputable def Dv (x y:aW) (A B:Bool):Bool:=iP (x.g=y.g) (iP (x.k=y.k) (iP (x.key=y.key) (iP (x.val=y.val) (iP (x.n=y.n) (A) B) B) B) B) B
theorem Hn {x y:aW} {A B:Bool} (hA:x=y→A=true) (hB:¬x=y→B=true):Dv x y A B=true:=by
 unfold Dv
 refine iI (fun h0=> ?_) (fun h=>hB (fun e=>h (by rw[e])))
 refine iI (fun h1=> ?_) (fun h=>hB (fun e=>h (by rw[e])))
 refine iI (fun h2=> ?_) (fun h=>hB (fun e=>h (by rw[e])))
 refine iI (fun h3=> ?_) (fun h=>hB (fun e=>h (by rw[e])))
 refine iI (fun h4=> ?_) (fun h=>hB (fun e=>h (by rw[e])))
 exact hA (abz h0 h1 h2 h3 h4).symm
structure BgK where
 id:ID
 mode:Int
 at_:Int
structure lJ where
 kind:Int
 id:ID
 ps:List aW
 vic:Proc
def bN (x:BgR):BgK:=⟨x.id,x.mode,x.at_⟩
def aq (x:ai):lJ:=⟨x.kind,x.id,x.ps,x.vic⟩
theorem ab8 {α β:Type} {k:α→β} {l m:List α} {i:Int} {x y:α} (h0:0≤i) (h:(l.take i.toNat).map k=(m.take i.toNat).map k) (hx:l[i.toNat]?=some x) (hy:m[i.toNat]?=some y) (e:k x=k y):(l.take (i+1).toNat).map k=(m.take (i+1).toNat).map k:=by
 rw[show(i+1).toNat=i.toNat+1 by omega,←tk hx,←tk hy,acR,acR,h,acJ,acJ,e]
theorem xY {α β:Type} {k:α→β} {l m:List α} {i:Int} {x y:α} (h0:0≤i) (h:m.map k=(l.take i.toNat).map k) (hx:l[i.toNat]?=some x) (e:k y=k x):(m++[y]).map k=(l.take (i+1).toNat).map k:=by
 rw[show(i+1).toNat=i.toNat+1 by omega,←tk hx,acR,acR,h,acJ,acJ,e]
theorem xX {α β:Type} {k:α→β} {l m:List α} {i:Int} (h:m.map k=(l.take i.toNat).map k) (h1:(l.length:Int)≤i):m.map k=l.map k:=by
 rwa[List.take_of_length_le (by omega)]at h
theorem vd {α:Type} {R:α→Prop} {l:List α} {i:Int} {x:α} (h:∀(j:Nat) y,(j:Int)<i→l[j]?=some y→R y) (h0:0≤i) (hx:l[i.toNat]?=some x) (h1:R x):∀(j:Nat) y,(j:Int)<i+1→l[j]?=some y→R y:=fun j y hj hy=>by
 by_cases e:(j:Int)=i
 ·have:j=i.toNat:=by omega
  subst this
  rw[hx]at hy;cases hy;exact h1
 ·exact h j y (by omega) hy
theorem ra {α:Type} {R:α→Prop} {l:List α} {i:Int} (h:∀(j:Nat) y,(j:Int)<i→l[j]?=some y→R y) (h1:(l.length:Int)≤i):∀x∈l,R x:=fun x hx=>by
 obtain⟨j,hj⟩:=List.mem_iff_getElem?.1 hx
 exact h j x (by have:=(List.getElem?_eq_some_iff.1 hj).1;omega) hj
def oO (z:Int):Prop:= -9223372036854775808≤z∧z≤9223372036854775807
def qz (x:aW):Prop:=x.key.length≤3000∧x.val.length≤3000
def dU (x:ai):Prop:=(x.ps.length≤199∧∀y∈x.ps,qz y)∧x.ws.length≤300
def BP (a:ez):Prop:=a.e.rv.length≤2000∧a.t.ms.length≤20∧a.s.ms.length≤20∧dU a.l
def qG (x:aW):Prop:=(0≤x.g∧x.g≤255)∧(0≤x.k∧x.k≤255)∧oO x.n
def UW (x:BgR):Prop:=x.id.ok∧oO x.mode∧oO x.at_
def UV (x:EdR):Prop:=x.id.ok∧oO x.at_∧oO x.code∧(0≤x.rc∧x.rc≤255)
def fg (x:ai):Prop:=(0≤x.kind∧x.kind≤255)∧x.id.ok∧(∀p∈x.ps,qG p)∧x.vic.ok
def aau (a:ez):Prop:=a.b.ps.length≤2932031007402∧a.t.rv.length≤140737488355328∧a.e.rv.length≤140737488355328
def yH (a:ez):Prop:=aau a∧oO a.kind∧oO a.at_∧(0≤a.g∧a.g≤255)∧UW a.b∧UV a.e∧fg a.l
def Rx (x:aW):List AV:=[.sy (.int 1 x.g),.sy (.int 1 x.k),.sy (.str x.key),.sy (.str x.val),.sy (.int 0 x.n)]
def ee (x:ID):List AV:=[.sy (.int 1 x.client.node),.sy (.int 2 x.client.life),.sy (.int 3 x.seq),.sy (.int 1 x.depth),.sy (.int 1 x.p0.group),.sy (.int 1 x.p0.index),.sy (.int 1 x.p1.group),.sy (.int 1 x.p1.index),.sy (.int 1 x.p2.group),.sy (.int 1 x.p2.index)]
def KU (x:BgR):List AV:=[.sy (.int 1 x.id.client.node),.sy (.int 2 x.id.client.life),.sy (.int 3 x.id.seq),.sy (.int 1 x.id.depth),.sy (.int 1 x.id.p0.group),.sy (.int 1 x.id.p0.index),.sy (.int 1 x.id.p1.group),.sy (.int 1 x.id.p1.index),.sy (.int 1 x.id.p2.group),.sy (.int 1 x.id.p2.index),.sy (.int 1 x.g),.sy (.int 0 x.mode),.sy (.int 0 x.at_),.sy (.imm x.hp 5 aW x.ps encP)]
def tG (x:EdR):List AV:=[.sy (.int 1 x.id.client.node),.sy (.int 2 x.id.client.life),.sy (.int 3 x.id.seq),.sy (.int 1 x.id.depth),.sy (.int 1 x.id.p0.group),.sy (.int 1 x.id.p0.index),.sy (.int 1 x.id.p1.group),.sy (.int 1 x.id.p1.index),.sy (.int 1 x.id.p2.group),.sy (.int 1 x.id.p2.index),.sy (.int 1 x.g),.sy (.int 0 x.mode),.sy (.int 0 x.begun),.sy (.int 0 x.at_),.sy (.int 0 x.code),.sy (.int 1 x.rc),.sy (.str x.rv)]
def Ho (x:cL):List AV:=[.sy (.int 1 x.who.node),.sy (.int 2 x.who.life),.sy (.int 1 x.id.client.node),.sy (.int 2 x.id.client.life),.sy (.int 3 x.id.seq),.sy (.int 1 x.id.depth),.sy (.int 1 x.id.p0.group),.sy (.int 1 x.id.p0.index),.sy (.int 1 x.id.p1.group),.sy (.int 1 x.id.p1.index),.sy (.int 1 x.id.p2.group),.sy (.int 1 x.id.p2.index),.sy (.int 1 x.rc),.sy (.str x.rv),.sy (.int 1 x.vg),.sy (.int 3 x.vn),.sy (.imm x.hm 2 Proc x.ms bJ)]
def Hp (x:cM):List AV:=[.sy (.int 1 x.who.node),.sy (.int 2 x.who.life),.sy (.int 1 x.vg),.sy (.int 3 x.vn),.sy (.imm x.hm 2 Proc x.ms bJ)]
def br (x:ai):List AV:=[.sy (.int 1 x.kind),.sy (.int 1 x.id.client.node),.sy (.int 2 x.id.client.life),.sy (.int 3 x.id.seq),.sy (.int 1 x.id.depth),.sy (.int 1 x.id.p0.group),.sy (.int 1 x.id.p0.index),.sy (.int 1 x.id.p1.group),.sy (.int 1 x.id.p1.index),.sy (.int 1 x.id.p2.group),.sy (.int 1 x.id.p2.index),.sy (.int 3 x.floor),.sy (.imm x.hp 5 aW x.ps encP),.sy (.int 1 x.rc),.sy (.str x.rv),.sy (.imm x.hw 3 bg x.ws bb),.sy (.int 1 x.vic.node),.sy (.int 2 x.vic.life)]
def KV (x:ez):List AV:=[.sy (.int 0 x.kind),.sy (.int 0 x.at_),.sy (.int 1 x.g),.sy (.int 1 x.b.id.client.node),.sy (.int 2 x.b.id.client.life),.sy (.int 3 x.b.id.seq),.sy (.int 1 x.b.id.depth),.sy (.int 1 x.b.id.p0.group),.sy (.int 1 x.b.id.p0.index),.sy (.int 1 x.b.id.p1.group),.sy (.int 1 x.b.id.p1.index),.sy (.int 1 x.b.id.p2.group),.sy (.int 1 x.b.id.p2.index),.sy (.int 1 x.b.g),.sy (.int 0 x.b.mode),.sy (.int 0 x.b.at_),.sy (.imm x.b.hp 5 aW x.b.ps encP),.sy (.int 1 x.e.id.client.node),.sy (.int 2 x.e.id.client.life),.sy (.int 3 x.e.id.seq),.sy (.int 1 x.e.id.depth),.sy (.int 1 x.e.id.p0.group),.sy (.int 1 x.e.id.p0.index),.sy (.int 1 x.e.id.p1.group),.sy (.int 1 x.e.id.p1.index),.sy (.int 1 x.e.id.p2.group),.sy (.int 1 x.e.id.p2.index),.sy (.int 1 x.e.g),.sy (.int 0 x.e.mode),.sy (.int 0 x.e.begun),.sy (.int 0 x.e.at_),.sy (.int 0 x.e.code),.sy (.int 1 x.e.rc),.sy (.str x.e.rv),.sy (.int 1 x.t.who.node),.sy (.int 2 x.t.who.life),.sy (.int 1 x.t.id.client.node),.sy (.int 2 x.t.id.client.life),.sy (.int 3 x.t.id.seq),.sy (.int 1 x.t.id.depth),.sy (.int 1 x.t.id.p0.group),.sy (.int 1 x.t.id.p0.index),.sy (.int 1 x.t.id.p1.group),.sy (.int 1 x.t.id.p1.index),.sy (.int 1 x.t.id.p2.group),.sy (.int 1 x.t.id.p2.index),.sy (.int 1 x.t.rc),.sy (.str x.t.rv),.sy (.int 1 x.t.vg),.sy (.int 3 x.t.vn),.sy (.imm x.t.hm 2 Proc x.t.ms bJ),.sy (.int 1 x.s.who.node),.sy (.int 2 x.s.who.life),.sy (.int 1 x.s.vg),.sy (.int 3 x.s.vn),.sy (.imm x.s.hm 2 Proc x.s.ms bJ),.sy (.int 1 x.l.kind),.sy (.int 1 x.l.id.client.node),.sy (.int 2 x.l.id.client.life),.sy (.int 3 x.l.id.seq),.sy (.int 1 x.l.id.depth),.sy (.int 1 x.l.id.p0.group),.sy (.int 1 x.l.id.p0.index),.sy (.int 1 x.l.id.p1.group),.sy (.int 1 x.l.id.p1.index),.sy (.int 1 x.l.id.p2.group),.sy (.int 1 x.l.id.p2.index),.sy (.int 3 x.l.floor),.sy (.imm x.l.hp 5 aW x.l.ps encP),.sy (.int 1 x.l.rc),.sy (.str x.l.rv),.sy (.imm x.l.hw 3 bg x.l.ws bb),.sy (.int 1 x.l.vic.node),.sy (.int 2 x.l.vic.life)]
def WU (x:eD):List AV:=[.sy (.int 1 x.who.node),.sy (.int 2 x.who.life),.sy (.int 1 x.id.client.node),.sy (.int 2 x.id.client.life),.sy (.int 3 x.id.seq),.sy (.int 1 x.id.depth),.sy (.int 1 x.id.p0.group),.sy (.int 1 x.id.p0.index),.sy (.int 1 x.id.p1.group),.sy (.int 1 x.id.p1.index),.sy (.int 1 x.id.p2.group),.sy (.int 1 x.id.p2.index),.sy (.int 1 x.rc),.sy (.str x.rv),.sy (.int 1 x.vg),.sy (.int 3 x.vn)]
noncomputable def GK:=bM aa4 0 (Bb 0 Lib.itoa) 32 [(0,20)]
theorem Kx:be Tryz.prog GK:=aY xU XW
noncomputable def Ef:=bM GK 0 (Ia 0 100000000000000000000 ON) 32 [(0,1)]
theorem Iv:be Tryz.prog Ef:=aY uM Kx
noncomputable def Ee:=bM Ef 0 (Ia 0 100 ON) 89 [(0,1)]
theorem Iu:be Tryz.prog Ee:=aY uL Iv
noncomputable def JI:=bM Ee 0 (Qm 0 10 Lib.itoa) 85 []
theorem LI:be Tryz.prog JI:=aY BM Iu
noncomputable def GJ:=bM JI 0 Gn 64 []
theorem Kw:be Tryz.prog GJ:=aY xT LI
noncomputable def Ed:=bM GJ 1 (CR [129,131]) 63 []
theorem It:be Tryz.prog Ed:=aY uK Kw
noncomputable def GM:=bM Ed 1 (Gp [129,131]) 65 []
theorem KA:be Tryz.prog GM:=aY xW It
noncomputable def JH:=bM GM 0 (KL [129,131]) 34 []
theorem LH:be Tryz.prog JH:=aY BL KA
noncomputable def GL:=bM JH 0 (Bb 0 Lib.itoa) 70 []
theorem Kz:be Tryz.prog GL:=aY xV LH
noncomputable def JG:=bM GL 0 (Bb 0 Lib.itoa) 35 []
theorem LG:be Tryz.prog JG:=aY BK Kz
noncomputable def GI:=bM JG 0 Ib 39 [(0,15)]
theorem Kv:be Tryz.prog GI:=aY xS LG
noncomputable def wT:=bM GI 0 Ib 68 [(0,15)]
theorem xM:be Tryz.prog wT:=aY uN Kv
def Mt:XF:=.mk 11 (.one 0) (.seq (g_ 1 [p_ 0 0 (.mv (.c (.bool false)))]) (.seq (g_ 2 [c_ 0 2 6 [],p_ 1 1 (m_ 2)]) (.seq (g_ 5 [p_ 0 3 (m_ 1),p_ 1 4 (.bld [.int 1 (.ofNat 0),.int 2 (.ofNat 0)] [(0,1),(1,1)] [.c (.int 1 (.ofNat 9)),.c (.int 2 (.ofNat 1))]),p_ 2 5 (.bld [.int 1 (.ofNat 0),.int 2 (.ofNat 0),.int 3 (.ofNat 0),.int 1 (.ofNat 0),.int 1 (.ofNat 0),.int 1 (.ofNat 0),.int 1 (.ofNat 0),.int 1 (.ofNat 0),.int 1 (.ofNat 0),.int 1 (.ofNat 0)] [(0,2),(2,1)] [.t 4,.c (.int 3 (.ofNat 1))]),p_ 3 6 (.bld [.int 1 (.ofNat 0),.int 2 (.ofNat 0),.int 3 (.ofNat 0),.int 1 (.ofNat 0),.int 1 (.ofNat 0),.int 1 (.ofNat 0),.int 1 (.ofNat 0),.int 1 (.ofNat 0),.int 1 (.ofNat 0),.int 1 (.ofNat 0),.int 1 (.ofNat 0),.int 0 (.ofNat 0),.int 0 (.ofNat 0),.nilS] [(0,10),(11,1)] [.t 5,i_ 2]),c_ 4 7 15 [.t 3,.t 6]]) (.seq (g_ 4 [p_ 0 8 (m_ 1),c_ 1 9 11 [.t 8],p_ 2 10 (.bin 5 0 (.t 9) (.c (.str [99,97,108,108,32,57,46,49,47,49,32,97,108,108,32,48,32,111,112,101,110,10]))),p_ 3 0 (m_ 10)]) .ret))))
theorem Ow:bT Tryz.prog 5 Mt=true:=by kernel_rfl
abbrev px:=Unit
structure tS where
 q:Prop
def jE (p:px) (r:tS):Prop:=r.q
noncomputable def rk (p:px):IE:=([],.leaf,0)
noncomputable def Bt (p:px) (K:KE):Bool:=aA fun r:tS=>iP (jE p r) (K (.sy (.bool r.q)) .leaf 0) true
theorem Kg {p:px} {K:KE} (hK:Bt p K=true) (r:tS) (h:jE p r):K (.sy (.bool r.q)) .leaf 0=true:=aP h (aF hK r)
theorem Ur (p:px) (K:KE) (hK:Bt p K=true):(bZ 0 (bH wT) dT 600 Mt (rk p).1 (rk p).2.1 (rk p).2.2 K)=true:=by
 refine Eq.trans (b:=(ac (mP (ID.ok ⟨⟨(9:Int),(1:Int)⟩,(1:Int),(0:Int),⟨(0:Int),(0:Int)⟩,⟨(0:Int),(0:Int)⟩,⟨(0:Int),(0:Int)⟩⟩) (mP (aL 0 (0:Int)) (mP ((Lib.join [bm,ah ⟨⟨(9:Int),(1:Int)⟩,(1:Int),(0:Int),⟨(0:Int),(0:Int)⟩,⟨(0:Int),(0:Int)⟩,⟨(0:Int),(0:Int)⟩⟩,jP,ff,eB] t_0).length≤140737488355328) (mP ([bm,ah ⟨⟨(9:Int),(1:Int)⟩,(1:Int),(0:Int),⟨(0:Int),(0:Int)⟩,⟨(0:Int),(0:Int)⟩,⟨(0:Int),(0:Int)⟩⟩,jP,ff,eB].length≤140737488355328) (mP (([]:List UInt8).length+(Lib.join [bm,ah ⟨⟨(9:Int),(1:Int)⟩,(1:Int),(0:Int),⟨(0:Int),(0:Int)⟩,⟨(0:Int),(0:Int)⟩,⟨(0:Int),(0:Int)⟩⟩,jP,ff,eB] t_0).length≤140737488355328) (aI fun b1:List UInt8=>mP ((([]:List UInt8)++(Lib.join [bm,ah ⟨⟨(9:Int),(1:Int)⟩,(1:Int),(0:Int),⟨(0:Int),(0:Int)⟩,⟨(0:Int),(0:Int)⟩,⟨(0:Int),(0:Int)⟩⟩,jP,ff,eB] t_0)).map bi=b1.map bi) (mP ((([]:List UInt8)++(Lib.join [bm,ah ⟨⟨(9:Int),(1:Int)⟩,(1:Int),(0:Int),⟨(0:Int),(0:Int)⟩,⟨(0:Int),(0:Int)⟩,⟨(0:Int),(0:Int)⟩⟩,jP,ff,eB] t_0)).length=b1.length) (mP (aL 1 (10:Int)) (mP (b1.length+1≤140737488355328) (aI fun b2:List UInt8=>mP ((b1++[ac0 (10:Int).toNat]).map bi=b2.map bi) (mP ((b1++[ac0 (10:Int).toNat]).length=b2.length) (mP (b2≠[]) (K (.sy (.bool (b2=Qi))) .leaf 0))))))))))))) (mP (ID.ok ⟨⟨(9:Int),(1:Int)⟩,(1:Int),(0:Int),⟨(0:Int),(0:Int)⟩,⟨(0:Int),(0:Int)⟩,⟨(0:Int),(0:Int)⟩⟩) (mP (aL 0 (0:Int)) (mP ((Lib.join [bm,ah ⟨⟨(9:Int),(1:Int)⟩,(1:Int),(0:Int),⟨(0:Int),(0:Int)⟩,⟨(0:Int),(0:Int)⟩,⟨(0:Int),(0:Int)⟩⟩,jP,ff,eB] t_0).length≤140737488355328) (mP ([bm,ah ⟨⟨(9:Int),(1:Int)⟩,(1:Int),(0:Int),⟨(0:Int),(0:Int)⟩,⟨(0:Int),(0:Int)⟩,⟨(0:Int),(0:Int)⟩⟩,jP,ff,eB].length≤140737488355328) (mP (([]:List UInt8).length+(Lib.join [bm,ah ⟨⟨(9:Int),(1:Int)⟩,(1:Int),(0:Int),⟨(0:Int),(0:Int)⟩,⟨(0:Int),(0:Int)⟩,⟨(0:Int),(0:Int)⟩⟩,jP,ff,eB] t_0).length≤140737488355328) (aI fun b3:List UInt8=>mP ((([]:List UInt8)++(Lib.join [bm,ah ⟨⟨(9:Int),(1:Int)⟩,(1:Int),(0:Int),⟨(0:Int),(0:Int)⟩,⟨(0:Int),(0:Int)⟩,⟨(0:Int),(0:Int)⟩⟩,jP,ff,eB] t_0)).map bi=b3.map bi) (mP ((([]:List UInt8)++(Lib.join [bm,ah ⟨⟨(9:Int),(1:Int)⟩,(1:Int),(0:Int),⟨(0:Int),(0:Int)⟩,⟨(0:Int),(0:Int)⟩,⟨(0:Int),(0:Int)⟩⟩,jP,ff,eB] t_0)).length=b3.length) (mP (aL 1 (10:Int)) (mP (b3.length+1≤140737488355328) (aI fun b4:List UInt8=>mP ((b3++[ac0 (10:Int).toNat]).map bi=b4.map bi) (mP ((b3++[ac0 (10:Int).toNat]).length=b4.length) (mP (b4≠[]) (K (.sy (.bool (b4=Qi))) .leaf 0))))))))))))))) (by kernel_rfl) ?_
 refine aM ?_ ?_
 refine mI (by decide+kernel) (aN (mI (by decide+kernel) (mI (by decide+kernel) (mI (by decide+kernel) ?_))))
 refine aG (([]:List UInt8)++(Lib.join [bm,ah ⟨⟨(9:Int),(1:Int)⟩,(1:Int),(0:Int),⟨(0:Int),(0:Int)⟩,⟨(0:Int),(0:Int)⟩,⟨(0:Int),(0:Int)⟩⟩,jP,ff,eB] t_0)) ?_
 refine az (mI (by decide+kernel) (aN (mI (by decide+kernel) ?_)))
 refine aG ((([]:List UInt8)++(Lib.join [bm,ah ⟨⟨(9:Int),(1:Int)⟩,(1:Int),(0:Int),⟨(0:Int),(0:Int)⟩,⟨(0:Int),(0:Int)⟩,⟨(0:Int),(0:Int)⟩⟩,jP,ff,eB] t_0))++[ac0 (10:Int).toNat]) ?_
 refine az (mI (by decide+kernel) (mI (by decide+kernel) ?_))
 exact Kg hK ⟨((([]:List UInt8)++(Lib.join [bm,ah ⟨⟨(9:Int),(1:Int)⟩,(1:Int),(0:Int),⟨(0:Int),(0:Int)⟩,⟨(0:Int),(0:Int)⟩,⟨(0:Int),(0:Int)⟩⟩,jP,ff,eB] t_0))++[ac0 (10:Int).toNat])=Qi⟩ (by dsimp only[jE]<;>decide+kernel)
 refine mI (by decide+kernel) (aN (mI (by decide+kernel) (mI (by decide+kernel) (mI (by decide+kernel) ?_))))
 refine aG (([]:List UInt8)++(Lib.join [bm,ah ⟨⟨(9:Int),(1:Int)⟩,(1:Int),(0:Int),⟨(0:Int),(0:Int)⟩,⟨(0:Int),(0:Int)⟩,⟨(0:Int),(0:Int)⟩⟩,jP,ff,eB] t_0)) ?_
 refine az (mI (by decide+kernel) (aN (mI (by decide+kernel) ?_)))
 refine aG ((([]:List UInt8)++(Lib.join [bm,ah ⟨⟨(9:Int),(1:Int)⟩,(1:Int),(0:Int),⟨(0:Int),(0:Int)⟩,⟨(0:Int),(0:Int)⟩,⟨(0:Int),(0:Int)⟩⟩,jP,ff,eB] t_0))++[ac0 (10:Int).toNat]) ?_
 refine az (mI (by decide+kernel) (mI (by decide+kernel) ?_))
 exact Kg hK ⟨((([]:List UInt8)++(Lib.join [bm,ah ⟨⟨(9:Int),(1:Int)⟩,(1:Int),(0:Int),⟨(0:Int),(0:Int)⟩,⟨(0:Int),(0:Int)⟩,⟨(0:Int),(0:Int)⟩⟩,jP,ff,eB] t_0))++[ac0 (10:Int).toNat])=Qi⟩ (by dsimp only[jE]<;>decide+kernel)
noncomputable def vZ:=bM wT 0 (ce rk Bt) 5 []
theorem uI:be Tryz.prog vZ:=aY (Dd (f:=5) (k:=0) (aT xM) Ow (by rfl) (by rfl) Ur) xM
end Go.Proofs.Tryz
