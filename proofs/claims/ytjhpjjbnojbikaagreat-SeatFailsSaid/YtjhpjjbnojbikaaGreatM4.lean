/- Definitions and lemmas of the proof, without a condition of their own. -/
import Derived.Test.YtjhpjjbnojbikaaGreatM3
import Derived.KernelRfl
open List renaming cons_append→apC,eq_nil_of_length_eq_zero→apS,length_append→apv,length_cons→apw,length_drop→apW,length_nil→apy,length_take→apL,mem_cons→apF,nil_append→apD,not_mem_nil→apU
open Nat renaming le_refl→apM
namespace Go.Proofs.Tryz
open Go.Proofs.YtjhpjjbnojbikaaGreat (dW fj eP fY fS kN)
open Go Go.RowKit Go.Sy
open Go.Eng hiding ae
set_option maxRecDepth 1000000
set_option linter.unusedVariables false
set_option maxHeartbeats 4000000
def gj:XF:=.mk 16 (.one 2) (.seq (g_ 2 [e_ 0 1 (.box 74 (.t 0)),p_ 1 2 (.mv F_)]) (.seq (h_ 14 [p_ 0 3 (f_ 1 1),r_ 1 4 (l_ 3),p_ 2 5 (.bin 3 0 (.t 4) (v_ 1 4)),p_ 3 6 (m_ 5),aT 4 7 6 true (.ld true 31 (.t 1)),cG 5 8 6 true 136 [.t 7],p_ 6 9 (.pick (.t 6) (.t 8) F_),p_ 7 10 (m_ 9),aT 8 11 10 true (.ld true 31 (.t 1)),aT 9 12 10 true (.ld true 31 (.t 1)),cG 10 13 10 true 138 [.t 12],ag_ 8 11 10 true (.ld true 31 (.t 1)),cG 11 14 10 true 137 [.t 11,.t 13],p_ 12 15 (.pick (.t 10) (.t 14) F_),p_ 13 2 (m_ 15)]) .ret))
theorem eQ:bN Tryz.prog 108 gj=true:=by kernel_rfl
structure gT where (x_n x_c:Int) (x_vh:Value) (x_vl:List Int) (x_mh:Value) (x_ml:List Int) (x_h:Value) (x_l:List Ke) (x_th:Value) (x_tl:List Ke)
noncomputable def Hv (p:gT):IE:=([eR 5 1 p.x_n p.x_c 257 [] 0 p.x_vh p.x_vl p.x_mh p.x_ml p.x_h p.x_l p.x_th p.x_tl],.leaf,0)
noncomputable def adl (p:gT) (K:KE):Bool:=K (.bool true) .leaf 0
def jM (p:gT):Prop:=p.x_vl=[]∧p.x_ml=[]∧p.x_l=[]∧p.x_tl=[]∧p.x_n=0∧p.x_c=0
theorem afr:Vf jM adl 0 UW aJ gj Hv:=by
 intro p K hpre hK
 refine Eq.trans (b:=(let z0:Bool:=(K (.bool false) .leaf 0);aa (qL [qI 3 p.x_n,qI 3 p.x_c,qY ((.imm p.x_vh 2 Int p.x_vl aG)),qY ((.imm p.x_mh 2 Int p.x_ml aG)),qY ((.imm p.x_h 18 Ke p.x_l au)),qY ((.imm p.x_th 18 Ke p.x_tl au))]) (iP (¬(p.x_vl.length:Int)=0) (iP (p.x_n=(0:Int)) (iP (p.x_c=(0:Int)) z0 z0) z0) (iP (0<(p.x_vl.length:Int)) (mP (0≤(0:Int)∧(0:Int)<(p.x_vl.length:Int)) (ae fun x1:Int=>iP (p.x_vl[0]?=some x1) (false) true)) (iP (¬(p.x_ml.length:Int)=0) (iP (p.x_n=(0:Int)) (iP (p.x_c=(0:Int)) z0 z0) z0) (iP (0<(p.x_ml.length:Int)) (mP (0≤(0:Int)∧(0:Int)<(p.x_ml.length:Int)) (ae fun x2:Int=>iP (p.x_ml[0]?=some x2) (false) true)) (iP (¬(p.x_l.length:Int)=0) (iP (p.x_n=(0:Int)) (iP (p.x_c=(0:Int)) z0 z0) z0) (iP (0<(p.x_l.length:Int)) (mP (0≤(0:Int)∧(0:Int)<(p.x_l.length:Int)) (ae fun x3:Ke=>iP (p.x_l[0]?=some x3) (false) true)) (iP (¬(p.x_tl.length:Int)=0) (iP (p.x_n=(0:Int)) (iP (p.x_c=(0:Int)) z0 z0) z0) (iP (0<(p.x_tl.length:Int)) (mP (0≤(0:Int)∧(0:Int)<(p.x_tl.length:Int)) (ae fun x4:Ke=>iP (p.x_tl[0]?=some x4) (false) true)) (iP (p.x_n=(0:Int)) (iP (p.x_c=(0:Int)) (K (.bool true) .leaf 0) z0) z0))))))))))) (by kernel_rfl) ?_
 dsimp only[jM]at hpre
 obtain⟨h_vl,h_ml,h_l,h_tl,m0,m1⟩:=hpre
 have e_vl:=congrArg List.length h_vl
 have e_ml:=congrArg List.length h_ml
 have e_l:=congrArg List.length h_l
 have e_tl:=congrArg List.length h_tl
 simp only[apy,apw]at e_vl e_ml e_l e_tl
 refine cq ?_
 apply iI<;>intro hc1
 refine iY fun hc2=> ?_
 refine iX fun hc3=> ?_
 exfalso;omega
 apply iI<;>intro hc4
 refine bE ?_
 refine ac fun x1=> ?_
 refine iJ fun hi5=> ?_
 exfalso;omega
 apply iI<;>intro hc6
 refine iY fun hc7=> ?_
 refine iX fun hc8=> ?_
 exfalso;omega
 apply iI<;>intro hc9
 refine bE ?_
 refine ac fun x2=> ?_
 refine iJ fun hi10=> ?_
 exfalso;omega
 apply iI<;>intro hc11
 refine iY fun hc12=> ?_
 refine iX fun hc13=> ?_
 exfalso;omega
 apply iI<;>intro hc14
 refine bE ?_
 refine ac fun x3=> ?_
 refine iJ fun hi15=> ?_
 exfalso;omega
 apply iI<;>intro hc16
 refine iY fun hc17=> ?_
 refine iX fun hc18=> ?_
 exfalso;omega
 apply iI<;>intro hc19
 refine bE ?_
 refine ac fun x4=> ?_
 refine iJ fun hi20=> ?_
 exfalso;omega
 refine iY fun hc21=> ?_
 refine iY fun hc22=> ?_
 exact hK
noncomputable def nc_mr5_1:EE 108 0:=bA (fun us M=>aA (Nat.beq (aC us 0 0) 5) (Nat.beq (aC us 0 3) 1)) (nE eQ afr) eS
noncomputable def RL:NN:=ck UW nc_mr5_1.2 [(0,15)]
abbrev PQ:=gT
noncomputable def Hu (p:PQ):IE:=([eR 6 1 p.x_n p.x_c 257 [] 0 p.x_vh p.x_vl p.x_mh p.x_ml p.x_h p.x_l p.x_th p.x_tl],.leaf,0)
noncomputable def adk (p:PQ) (K:KE):Bool:=K (.bool true) .leaf 0
def jL (p:PQ):Prop:=p.x_vl=[]∧p.x_ml=[]∧p.x_l=[]∧p.x_tl=[]∧p.x_n=0∧p.x_c=0
theorem afq:Vf jL adk 0 RL aJ gj Hu:=by
 intro p K hpre hK
 refine Eq.trans (b:=(let z0:Bool:=(K (.bool false) .leaf 0);aa (qL [qI 3 p.x_n,qI 3 p.x_c,qY ((.imm p.x_vh 2 Int p.x_vl aG)),qY ((.imm p.x_mh 2 Int p.x_ml aG)),qY ((.imm p.x_h 18 Ke p.x_l au)),qY ((.imm p.x_th 18 Ke p.x_tl au))]) (iP (¬(p.x_vl.length:Int)=0) (iP (p.x_n=(0:Int)) (iP (p.x_c=(0:Int)) z0 z0) z0) (iP (0<(p.x_vl.length:Int)) (mP (0≤(0:Int)∧(0:Int)<(p.x_vl.length:Int)) (ae fun x1:Int=>iP (p.x_vl[0]?=some x1) (false) true)) (iP (¬(p.x_ml.length:Int)=0) (iP (p.x_n=(0:Int)) (iP (p.x_c=(0:Int)) z0 z0) z0) (iP (0<(p.x_ml.length:Int)) (mP (0≤(0:Int)∧(0:Int)<(p.x_ml.length:Int)) (ae fun x2:Int=>iP (p.x_ml[0]?=some x2) (false) true)) (iP (¬(p.x_l.length:Int)=0) (iP (p.x_n=(0:Int)) (iP (p.x_c=(0:Int)) z0 z0) z0) (iP (0<(p.x_l.length:Int)) (mP (0≤(0:Int)∧(0:Int)<(p.x_l.length:Int)) (ae fun x3:Ke=>iP (p.x_l[0]?=some x3) (false) true)) (iP (¬(p.x_tl.length:Int)=0) (iP (p.x_n=(0:Int)) (iP (p.x_c=(0:Int)) z0 z0) z0) (iP (0<(p.x_tl.length:Int)) (mP (0≤(0:Int)∧(0:Int)<(p.x_tl.length:Int)) (ae fun x4:Ke=>iP (p.x_tl[0]?=some x4) (false) true)) (iP (p.x_n=(0:Int)) (iP (p.x_c=(0:Int)) (K (.bool true) .leaf 0) z0) z0))))))))))) (by kernel_rfl) ?_
 dsimp only[jL]at hpre
 obtain⟨h_vl,h_ml,h_l,h_tl,m0,m1⟩:=hpre
 have e_vl:=congrArg List.length h_vl
 have e_ml:=congrArg List.length h_ml
 have e_l:=congrArg List.length h_l
 have e_tl:=congrArg List.length h_tl
 simp only[apy,apw]at e_vl e_ml e_l e_tl
 refine cq ?_
 apply iI<;>intro hc1
 refine iY fun hc2=> ?_
 refine iX fun hc3=> ?_
 exfalso;omega
 apply iI<;>intro hc4
 refine bE ?_
 refine ac fun x1=> ?_
 refine iJ fun hi5=> ?_
 exfalso;omega
 apply iI<;>intro hc6
 refine iY fun hc7=> ?_
 refine iX fun hc8=> ?_
 exfalso;omega
 apply iI<;>intro hc9
 refine bE ?_
 refine ac fun x2=> ?_
 refine iJ fun hi10=> ?_
 exfalso;omega
 apply iI<;>intro hc11
 refine iY fun hc12=> ?_
 refine iX fun hc13=> ?_
 exfalso;omega
 apply iI<;>intro hc14
 refine bE ?_
 refine ac fun x3=> ?_
 refine iJ fun hi15=> ?_
 exfalso;omega
 apply iI<;>intro hc16
 refine iY fun hc17=> ?_
 refine iX fun hc18=> ?_
 exfalso;omega
 apply iI<;>intro hc19
 refine bE ?_
 refine ac fun x4=> ?_
 refine iJ fun hi20=> ?_
 exfalso;omega
 refine iY fun hc21=> ?_
 refine iY fun hc22=> ?_
 exact hK
noncomputable def nc_mr6_1:EE 108 0:=bA (fun us M=>aA (Nat.beq (aC us 0 0) 6) (Nat.beq (aC us 0 3) 1)) (nE eQ afq) nc_mr5_1
noncomputable def RK:NN:=ck RL nc_mr6_1.2 [(0,15)]
abbrev PP:=gT
noncomputable def Ht (p:PP):IE:=([eR 8 1 p.x_n p.x_c 257 [] 0 p.x_vh p.x_vl p.x_mh p.x_ml p.x_h p.x_l p.x_th p.x_tl],.leaf,0)
noncomputable def adj (p:PP) (K:KE):Bool:=K (.bool true) .leaf 0
def jK (p:PP):Prop:=p.x_vl=[]∧p.x_ml=[]∧p.x_tl=[]∧bF p.x_l∧p.x_l.length≤400∧p.x_n=0∧p.x_c=0
theorem afp:Vf jK adj 0 RK aJ gj Ht:=by
 intro p K hpre hK
 refine Eq.trans (b:=(let z0:Bool:=(K (.bool false) .leaf 0);iP ((p.x_l.length:Int)≤400) (aL vj ij ⟨p.x_h,p.x_l⟩ fun p1=>aa (qL [qI 3 p.x_n,qI 3 p.x_c,qY ((.imm p.x_vh 2 Int p.x_vl aG)),qY ((.imm p.x_mh 2 Int p.x_ml aG)),qY ((.imm p.x_h 18 Ke p.x_l au)),qY ((.imm p.x_th 18 Ke p.x_tl au))]) (iP (¬(p.x_vl.length:Int)=0) (iP (p.x_n=(0:Int)) (iP (p.x_c=(0:Int)) z0 z0) z0) (iP (0<(p.x_vl.length:Int)) (mP (0≤(0:Int)∧(0:Int)<(p.x_vl.length:Int)) (ae fun x1:Int=>iP (p.x_vl[0]?=some x1) (false) true)) (iP (¬(p.x_ml.length:Int)=0) (iP (p.x_n=(0:Int)) (iP (p.x_c=(0:Int)) z0 z0) z0) (iP (0<(p.x_ml.length:Int)) (mP (0≤(0:Int)∧(0:Int)<(p.x_ml.length:Int)) (ae fun x2:Int=>iP (p.x_ml[0]?=some x2) (false) true)) (aL tu fX ⟨p.x_h,p.x_l,p.x_h,p.x_l⟩ fun p2=>iP (¬(p.x_tl.length:Int)=0) (iP (p.x_n=(0:Int)) (iP (p.x_c=(0:Int)) z0 z0) z0) (iP (0<(p.x_tl.length:Int)) (mP (0≤(0:Int)∧(0:Int)<(p.x_tl.length:Int)) (ae fun x3:Ke=>iP (p.x_tl[0]?=some x3) (false) true)) (iP (p.x_n=(0:Int)) (iP (p.x_c=(0:Int)) (K (.bool true) .leaf 0) z0) z0)))))))) z0)) (by kernel_rfl) ?_
 dsimp only[jK]at hpre
 obtain⟨h_vl,h_ml,h_tl,k_l,u_l,m0,m1⟩:=hpre
 have e_vl:=congrArg List.length h_vl
 have e_ml:=congrArg List.length h_ml
 have e_tl:=congrArg List.length h_tl
 simp only[apy,apw]at e_vl e_ml e_tl
 refine iY fun hc1=> ?_
 refine xU ?_
 refine cq ?_
 apply iI<;>intro hc2
 refine iY fun hc3=> ?_
 refine iX fun hc4=> ?_
 exfalso;omega
 apply iI<;>intro hc5
 refine bE ?_
 refine ac fun x1=> ?_
 refine iJ fun hi6=> ?_
 exfalso;omega
 apply iI<;>intro hc7
 refine iY fun hc8=> ?_
 refine iX fun hc9=> ?_
 exfalso;omega
 apply iI<;>intro hc10
 refine bE ?_
 refine ac fun x2=> ?_
 refine iJ fun hi11=> ?_
 exfalso;omega
 refine xT ?_
 apply iI<;>intro hc12
 refine iY fun hc13=> ?_
 refine iX fun hc14=> ?_
 exfalso;omega
 apply iI<;>intro hc15
 refine bE ?_
 refine ac fun x3=> ?_
 refine iJ fun hi16=> ?_
 exfalso;omega
 refine iY fun hc17=> ?_
 refine iY fun hc18=> ?_
 exact hK
noncomputable def nc_mr8_1:EE 108 0:=bA (fun us M=>aA (Nat.beq (aC us 0 0) 8) (Nat.beq (aC us 0 3) 1)) (nE eQ afp) nc_mr6_1
noncomputable def RJ:NN:=ck RK nc_mr8_1.2 [(0,15)]
abbrev PU:=gT
noncomputable def vy (p:PU):IE:=([eR 3 1 p.x_n p.x_c 0 [] 0 p.x_vh p.x_vl p.x_mh p.x_ml p.x_h p.x_l p.x_th p.x_tl],.leaf,0)
noncomputable def adp (p:PU) (K:KE):Bool:=K (.bool true) .leaf 0
def fo (p:PU):Prop:=p.x_vl=[]∧p.x_ml=[]∧p.x_tl=[]∧bF p.x_l∧p.x_l.length≤400∧0≤p.x_n∧p.x_n+(p.x_l.length:Int)≤400∧0≤p.x_c∧p.x_c≤400
theorem afw:Vf fo adp 0 RJ aJ gj vy:=by
 intro p K hpre hK
 refine Eq.trans (b:=(let z0:Bool:=(K (.bool false) .leaf 0);iP (p.x_n≤(400:Int)) (iP (p.x_c≤(400:Int)) (mP (aI 0 p.x_n) (mP (aI 0 (p.x_n+(p.x_l.length:Int))) (iP ((p.x_n+(p.x_l.length:Int))≤400) (iP ((p.x_l.length:Int)≤400) (aL vj ij ⟨p.x_h,p.x_l⟩ fun p1=>mE (.imm p.x_h 18 Ke p.x_l au) (mE (.int 3 p.x_n) (aa (qL [qI 3 p.x_n,qI 3 p.x_c,qY ((.imm p.x_vh 2 Int p.x_vl aG)),qY ((.imm p.x_mh 2 Int p.x_ml aG)),qY ((.imm p.x_h 18 Ke p.x_l au)),qY ((.imm p.x_th 18 Ke p.x_tl au))]) (iP (¬(p.x_vl.length:Int)=0) (iP (p.x_n=p.x_n) (iP (p.x_c=p.x_c) z0 z0) z0) (iP (0<(p.x_vl.length:Int)) (mP (0≤(0:Int)∧(0:Int)<(p.x_vl.length:Int)) (ae fun x1:Int=>iP (p.x_vl[0]?=some x1) (false) true)) (iP (¬(p.x_ml.length:Int)=0) (iP (p.x_n=p.x_n) (iP (p.x_c=p.x_c) z0 z0) z0) (iP (0<(p.x_ml.length:Int)) (mP (0≤(0:Int)∧(0:Int)<(p.x_ml.length:Int)) (ae fun x2:Int=>iP (p.x_ml[0]?=some x2) (false) true)) (aL tu fX ⟨p.x_h,p.x_l,p.x_h,p.x_l⟩ fun p2=>iP (¬(p.x_tl.length:Int)=0) (iP (p.x_n=p.x_n) (iP (p.x_c=p.x_c) z0 z0) z0) (iP (0<(p.x_tl.length:Int)) (mP (0≤(0:Int)∧(0:Int)<(p.x_tl.length:Int)) (ae fun x3:Ke=>iP (p.x_tl[0]?=some x3) (false) true)) (iP (p.x_n=p.x_n) (iP (p.x_c=p.x_c) (K (.bool true) .leaf 0) z0) z0)))))))))) z0) z0))) z0) z0)) (by kernel_rfl) ?_
 dsimp only[fo]at hpre
 obtain⟨h_vl,h_ml,h_tl,k_l,u_l,m0,m1,m2,m3⟩:=hpre
 have e_vl:=congrArg List.length h_vl
 have e_ml:=congrArg List.length h_ml
 have e_tl:=congrArg List.length h_tl
 simp only[apy,apw]at e_vl e_ml e_tl
 refine iY fun hc1=> ?_
 refine iY fun hc2=> ?_
 refine dc (dc ?_)
 refine iY fun hc3=> ?_
 refine iY fun hc4=> ?_
 refine xU ?_
 refine aH (aH ?_)
 refine cq ?_
 apply iI<;>intro hc5
 refine iY fun hc6=> ?_
 refine iX fun hc7=> ?_
 exfalso;omega
 apply iI<;>intro hc8
 refine bE ?_
 refine ac fun x1=> ?_
 refine iJ fun hi9=> ?_
 exfalso;omega
 apply iI<;>intro hc10
 refine iY fun hc11=> ?_
 refine iX fun hc12=> ?_
 exfalso;omega
 apply iI<;>intro hc13
 refine bE ?_
 refine ac fun x2=> ?_
 refine iJ fun hi14=> ?_
 exfalso;omega
 refine xT ?_
 apply iI<;>intro hc15
 refine iY fun hc16=> ?_
 refine iX fun hc17=> ?_
 exfalso;omega
 apply iI<;>intro hc18
 refine bE ?_
 refine ac fun x3=> ?_
 refine iJ fun hi19=> ?_
 exfalso;omega
 refine iY fun hc20=> ?_
 refine iY fun hc21=> ?_
 exact hK
noncomputable def nc_mr3_1:EE 108 0:=bA (fun us M=>aA (Nat.beq (aC us 0 0) 3) (Nat.beq (aC us 0 3) 1)) (nE eQ afw) nc_mr8_1
noncomputable def RO:NN:=ck RJ nc_mr3_1.2 [(0,15)]
abbrev PT:=gT
noncomputable def Hx (p:PT):IE:=([eR 3 2 p.x_n p.x_c 0 [] 0 p.x_vh p.x_vl p.x_mh p.x_ml p.x_h p.x_l p.x_th p.x_tl],.leaf,0)
noncomputable def ado (p:PT) (K:KE):Bool:=K (.bool true) .leaf 0
def jO (p:PT):Prop:=p.x_vl=[]∧p.x_ml=[]∧p.x_tl=[]∧bF p.x_l∧p.x_l.length≤400∧0≤p.x_n∧p.x_n+(p.x_l.length:Int)≤400∧0≤p.x_c∧p.x_c≤400
theorem afv:Vf jO ado 0 RO aJ gj Hx:=by
 intro p K hpre hK
 refine Eq.trans (b:=(let z0:Bool:=(K (.bool false) .leaf 0);iP (p.x_n≤(400:Int)) (iP (p.x_c≤(400:Int)) (mP (aI 0 p.x_n) (mP (aI 0 (p.x_n+(p.x_l.length:Int))) (iP ((p.x_n+(p.x_l.length:Int))≤400) (iP ((p.x_l.length:Int)≤400) (aL vj ij ⟨p.x_h,p.x_l⟩ fun p1=>mE (.imm p.x_h 18 Ke p.x_l au) (mE (.int 3 p.x_n) (aa (qL [qI 3 p.x_n,qI 3 p.x_c,qY ((.imm p.x_vh 2 Int p.x_vl aG)),qY ((.imm p.x_mh 2 Int p.x_ml aG)),qY ((.imm p.x_h 18 Ke p.x_l au)),qY ((.imm p.x_th 18 Ke p.x_tl au))]) (iP (¬(p.x_vl.length:Int)=0) (iP (p.x_n=p.x_n) (iP (p.x_c=p.x_c) z0 z0) z0) (iP (0<(p.x_vl.length:Int)) (mP (0≤(0:Int)∧(0:Int)<(p.x_vl.length:Int)) (ae fun x1:Int=>iP (p.x_vl[0]?=some x1) (false) true)) (iP (¬(p.x_ml.length:Int)=0) (iP (p.x_n=p.x_n) (iP (p.x_c=p.x_c) z0 z0) z0) (iP (0<(p.x_ml.length:Int)) (mP (0≤(0:Int)∧(0:Int)<(p.x_ml.length:Int)) (ae fun x2:Int=>iP (p.x_ml[0]?=some x2) (false) true)) (aL tu fX ⟨p.x_h,p.x_l,p.x_h,p.x_l⟩ fun p2=>iP (¬(p.x_tl.length:Int)=0) (iP (p.x_n=p.x_n) (iP (p.x_c=p.x_c) z0 z0) z0) (iP (0<(p.x_tl.length:Int)) (mP (0≤(0:Int)∧(0:Int)<(p.x_tl.length:Int)) (ae fun x3:Ke=>iP (p.x_tl[0]?=some x3) (false) true)) (iP (p.x_n=p.x_n) (iP (p.x_c=p.x_c) (K (.bool true) .leaf 0) z0) z0)))))))))) z0) z0))) z0) z0)) (by kernel_rfl) ?_
 dsimp only[jO]at hpre
 obtain⟨h_vl,h_ml,h_tl,k_l,u_l,m0,m1,m2,m3⟩:=hpre
 have e_vl:=congrArg List.length h_vl
 have e_ml:=congrArg List.length h_ml
 have e_tl:=congrArg List.length h_tl
 simp only[apy,apw]at e_vl e_ml e_tl
 refine iY fun hc1=> ?_
 refine iY fun hc2=> ?_
 refine dc (dc ?_)
 refine iY fun hc3=> ?_
 refine iY fun hc4=> ?_
 refine xU ?_
 refine aH (aH ?_)
 refine cq ?_
 apply iI<;>intro hc5
 refine iY fun hc6=> ?_
 refine iX fun hc7=> ?_
 exfalso;omega
 apply iI<;>intro hc8
 refine bE ?_
 refine ac fun x1=> ?_
 refine iJ fun hi9=> ?_
 exfalso;omega
 apply iI<;>intro hc10
 refine iY fun hc11=> ?_
 refine iX fun hc12=> ?_
 exfalso;omega
 apply iI<;>intro hc13
 refine bE ?_
 refine ac fun x2=> ?_
 refine iJ fun hi14=> ?_
 exfalso;omega
 refine xT ?_
 apply iI<;>intro hc15
 refine iY fun hc16=> ?_
 refine iX fun hc17=> ?_
 exfalso;omega
 apply iI<;>intro hc18
 refine bE ?_
 refine ac fun x3=> ?_
 refine iJ fun hi19=> ?_
 exfalso;omega
 refine iY fun hc20=> ?_
 refine iY fun hc21=> ?_
 exact hK
noncomputable def nc_mr3_2:EE 108 0:=bA (fun us M=>aA (Nat.beq (aC us 0 0) 3) (Nat.beq (aC us 0 3) 2)) (nE eQ afv) nc_mr3_1
noncomputable def RN:NN:=ck RO nc_mr3_2.2 [(0,15)]
abbrev PS:=gT
noncomputable def vw (p:PS):IE:=([eR 4 1 p.x_n p.x_c 0 [] 0 p.x_vh p.x_vl p.x_mh p.x_ml p.x_h p.x_l p.x_th p.x_tl],.leaf,0)
noncomputable def adn (p:PS) (K:KE):Bool:=K (.bool true) .leaf 0
def fm (p:PS):Prop:=p.x_vl=[]∧p.x_ml=[]∧p.x_l=[]∧p.x_tl=[]∧0≤p.x_n∧p.x_n≤400∧p.x_c=0
theorem afu:Vf fm adn 0 RN aJ gj vw:=by
 intro p K hpre hK
 refine Eq.trans (b:=(let z0:Bool:=(K (.bool false) .leaf 0);iP (p.x_n≤(400:Int)) (mE (.int 3 p.x_n) (aa (qL [qI 3 p.x_n,qI 3 p.x_c,qY ((.imm p.x_vh 2 Int p.x_vl aG)),qY ((.imm p.x_mh 2 Int p.x_ml aG)),qY ((.imm p.x_h 18 Ke p.x_l au)),qY ((.imm p.x_th 18 Ke p.x_tl au))]) (iP (¬(p.x_vl.length:Int)=0) (iP (p.x_n=p.x_n) (iP (p.x_c=(0:Int)) z0 z0) z0) (iP (0<(p.x_vl.length:Int)) (mP (0≤(0:Int)∧(0:Int)<(p.x_vl.length:Int)) (ae fun x1:Int=>iP (p.x_vl[0]?=some x1) (false) true)) (iP (¬(p.x_ml.length:Int)=0) (iP (p.x_n=p.x_n) (iP (p.x_c=(0:Int)) z0 z0) z0) (iP (0<(p.x_ml.length:Int)) (mP (0≤(0:Int)∧(0:Int)<(p.x_ml.length:Int)) (ae fun x2:Int=>iP (p.x_ml[0]?=some x2) (false) true)) (iP (¬(p.x_l.length:Int)=0) (iP (p.x_n=p.x_n) (iP (p.x_c=(0:Int)) z0 z0) z0) (iP (0<(p.x_l.length:Int)) (mP (0≤(0:Int)∧(0:Int)<(p.x_l.length:Int)) (ae fun x3:Ke=>iP (p.x_l[0]?=some x3) (false) true)) (iP (¬(p.x_tl.length:Int)=0) (iP (p.x_n=p.x_n) (iP (p.x_c=(0:Int)) z0 z0) z0) (iP (0<(p.x_tl.length:Int)) (mP (0≤(0:Int)∧(0:Int)<(p.x_tl.length:Int)) (ae fun x4:Ke=>iP (p.x_tl[0]?=some x4) (false) true)) (iP (p.x_n=p.x_n) (iP (p.x_c=(0:Int)) (K (.bool true) .leaf 0) z0) z0))))))))))) z0)) (by kernel_rfl) ?_
 dsimp only[fm]at hpre
 obtain⟨h_vl,h_ml,h_l,h_tl,m0,m1,m2⟩:=hpre
 have e_vl:=congrArg List.length h_vl
 have e_ml:=congrArg List.length h_ml
 have e_l:=congrArg List.length h_l
 have e_tl:=congrArg List.length h_tl
 simp only[apy,apw]at e_vl e_ml e_l e_tl
 refine iY fun hc1=> ?_
 refine aH ?_
 refine cq ?_
 apply iI<;>intro hc2
 refine iY fun hc3=> ?_
 refine iX fun hc4=> ?_
 exfalso;omega
 apply iI<;>intro hc5
 refine bE ?_
 refine ac fun x1=> ?_
 refine iJ fun hi6=> ?_
 exfalso;omega
 apply iI<;>intro hc7
 refine iY fun hc8=> ?_
 refine iX fun hc9=> ?_
 exfalso;omega
 apply iI<;>intro hc10
 refine bE ?_
 refine ac fun x2=> ?_
 refine iJ fun hi11=> ?_
 exfalso;omega
 apply iI<;>intro hc12
 refine iY fun hc13=> ?_
 refine iX fun hc14=> ?_
 exfalso;omega
 apply iI<;>intro hc15
 refine bE ?_
 refine ac fun x3=> ?_
 refine iJ fun hi16=> ?_
 exfalso;omega
 apply iI<;>intro hc17
 refine iY fun hc18=> ?_
 refine iX fun hc19=> ?_
 exfalso;omega
 apply iI<;>intro hc20
 refine bE ?_
 refine ac fun x4=> ?_
 refine iJ fun hi21=> ?_
 exfalso;omega
 refine iY fun hc22=> ?_
 refine iY fun hc23=> ?_
 exact hK
noncomputable def nc_mr4_1:EE 108 0:=bA (fun us M=>aA (Nat.beq (aC us 0 0) 4) (Nat.beq (aC us 0 3) 1)) (nE eQ afu) nc_mr3_2
noncomputable def RM:NN:=ck RN nc_mr4_1.2 [(0,15)]
abbrev PR:=gT
noncomputable def Hw (p:PR):IE:=([eR 4 2 p.x_n p.x_c 0 [] 0 p.x_vh p.x_vl p.x_mh p.x_ml p.x_h p.x_l p.x_th p.x_tl],.leaf,0)
noncomputable def adm (p:PR) (K:KE):Bool:=K (.bool true) .leaf 0
def jN (p:PR):Prop:=p.x_vl=[]∧p.x_ml=[]∧p.x_l=[]∧p.x_tl=[]∧0≤p.x_n∧p.x_n≤400∧p.x_c=0
theorem afs:Vf jN adm 0 RM aJ gj Hw:=by
 intro p K hpre hK
 refine Eq.trans (b:=(let z0:Bool:=(K (.bool false) .leaf 0);iP (p.x_n≤(400:Int)) (mE (.int 3 p.x_n) (aa (qL [qI 3 p.x_n,qI 3 p.x_c,qY ((.imm p.x_vh 2 Int p.x_vl aG)),qY ((.imm p.x_mh 2 Int p.x_ml aG)),qY ((.imm p.x_h 18 Ke p.x_l au)),qY ((.imm p.x_th 18 Ke p.x_tl au))]) (iP (¬(p.x_vl.length:Int)=0) (iP (p.x_n=p.x_n) (iP (p.x_c=(0:Int)) z0 z0) z0) (iP (0<(p.x_vl.length:Int)) (mP (0≤(0:Int)∧(0:Int)<(p.x_vl.length:Int)) (ae fun x1:Int=>iP (p.x_vl[0]?=some x1) (false) true)) (iP (¬(p.x_ml.length:Int)=0) (iP (p.x_n=p.x_n) (iP (p.x_c=(0:Int)) z0 z0) z0) (iP (0<(p.x_ml.length:Int)) (mP (0≤(0:Int)∧(0:Int)<(p.x_ml.length:Int)) (ae fun x2:Int=>iP (p.x_ml[0]?=some x2) (false) true)) (iP (¬(p.x_l.length:Int)=0) (iP (p.x_n=p.x_n) (iP (p.x_c=(0:Int)) z0 z0) z0) (iP (0<(p.x_l.length:Int)) (mP (0≤(0:Int)∧(0:Int)<(p.x_l.length:Int)) (ae fun x3:Ke=>iP (p.x_l[0]?=some x3) (false) true)) (iP (¬(p.x_tl.length:Int)=0) (iP (p.x_n=p.x_n) (iP (p.x_c=(0:Int)) z0 z0) z0) (iP (0<(p.x_tl.length:Int)) (mP (0≤(0:Int)∧(0:Int)<(p.x_tl.length:Int)) (ae fun x4:Ke=>iP (p.x_tl[0]?=some x4) (false) true)) (iP (p.x_n=p.x_n) (iP (p.x_c=(0:Int)) (K (.bool true) .leaf 0) z0) z0))))))))))) z0)) (by kernel_rfl) ?_
 dsimp only[jN]at hpre
 obtain⟨h_vl,h_ml,h_l,h_tl,m0,m1,m2⟩:=hpre
 have e_vl:=congrArg List.length h_vl
 have e_ml:=congrArg List.length h_ml
 have e_l:=congrArg List.length h_l
 have e_tl:=congrArg List.length h_tl
 simp only[apy,apw]at e_vl e_ml e_l e_tl
 refine iY fun hc1=> ?_
 refine aH ?_
 refine cq ?_
 apply iI<;>intro hc2
 refine iY fun hc3=> ?_
 refine iX fun hc4=> ?_
 exfalso;omega
 apply iI<;>intro hc5
 refine bE ?_
 refine ac fun x1=> ?_
 refine iJ fun hi6=> ?_
 exfalso;omega
 apply iI<;>intro hc7
 refine iY fun hc8=> ?_
 refine iX fun hc9=> ?_
 exfalso;omega
 apply iI<;>intro hc10
 refine bE ?_
 refine ac fun x2=> ?_
 refine iJ fun hi11=> ?_
 exfalso;omega
 apply iI<;>intro hc12
 refine iY fun hc13=> ?_
 refine iX fun hc14=> ?_
 exfalso;omega
 apply iI<;>intro hc15
 refine bE ?_
 refine ac fun x3=> ?_
 refine iJ fun hi16=> ?_
 exfalso;omega
 apply iI<;>intro hc17
 refine iY fun hc18=> ?_
 refine iX fun hc19=> ?_
 exfalso;omega
 apply iI<;>intro hc20
 refine bE ?_
 refine ac fun x4=> ?_
 refine iJ fun hi21=> ?_
 exfalso;omega
 refine iY fun hc22=> ?_
 refine iY fun hc23=> ?_
 exact hK
noncomputable def nc_mr4_2:EE 108 0:=bA (fun us M=>aA (Nat.beq (aC us 0 0) 4) (Nat.beq (aC us 0 3) 2)) (nE eQ afs) nc_mr4_1
noncomputable def tN:NN:=ck RM nc_mr4_2.2 [(0,15)]
end Go.Proofs.Tryz
namespace Go.Proofs.Tryz
open Go Go.RowKit Go.Sy
open Go.Eng hiding ae
set_option maxRecDepth 1000000
set_option linter.unusedVariables false
set_option maxHeartbeats 4000000
noncomputable def cT (M:T) (i r:Nat):Bool:=match M.get i with
 |some (.blk _ _ _ (el::_))=>match fb el r with
  |some (.sl _ _ _ _)=>true
  |_=>false
 |_=>false
def Bs (n:Int) (L:List Fx) (a:Nat):Prop:=0≤n∧n≤999990∧a≤L.length∧L.length - a≤300∧L.length≤1000000
def Ap (L:List Fx) (d:Nat) (l:List Fx) (a:Nat) (q:List Fx):Prop:=d≤L.length∧L.length≤l.length+q.length∧L.drop d=l.drop a++q
theorem fw {L l:List Fx} {d a:Nat} {q:List Fx} (h:d≤L.length∧L.length≤l.length+q.length∧L.drop d=l.drop a++q):Ap L d l a q:=h
theorem Ap.len {L l:List Fx} {d a:Nat} {q:List Fx} (h:Ap L d l a q):L.length - d=l.length - a+q.length∧L.length≤l.length+q.length∧d≤L.length:=by
 have e:=congrArg List.length h.2.2
 simp only[apW,apv]at e
 exact⟨e,h.2.1,h.1⟩
theorem Ap.nil {L:List Fx} {a:Nat} (h:a≤L.length):Ap L a L a []:=⟨h,by simp,by simp⟩
theorem Ap.trans {L1 L2 l:List Fx} {d1 d2 a:Nat} {q1 q2:List Fx} (h:Ap L1 d1 l a q1) (k:Ap L2 d2 L1 d1 q2):Ap L2 d2 l a (q1++q2):=⟨k.1,by rw[apv];have:=h.2.1;have:=k.2.1;omega,by rw[k.2.2,h.2.2,List.append_assoc]⟩
noncomputable def gi (us:List AV) (a:Nat):Nat:=match fb us a with
 |some (.int _ (.ofNat z))=>z
 |_=>999
theorem zQ {α:Type} {r l:List α} {a n:Nat} (h:r=(l.drop a).take n) (hn:l.length≤a+n):r=l.drop a:=by rw[h,List.take_of_length_le (by rw[apW];omega)]
theorem aoZ {α:Type} {L:List α} {a:Nat} {y x:α} {r:List α} (h:L.drop a=y::r) (e:L[a]?=some x):x=y∧L.drop (a+1)=r∧a+1≤L.length:=by
 have hl:=(List.getElem?_eq_some_iff.1 e).1
 rw[List.drop_eq_getElem_cons hl]at h
 have h2:=(List.getElem?_eq_some_iff.1 e).2
 injection h with h3 h4
 exact⟨h2.symm.trans h3,h4,hl⟩
theorem dP {L l:List Fx} {d a N:Nat} {q r:List Fx} (e:l.drop a=r) (h:Ap L d l a q) (z:l.length≤N):L.drop d=r++q∧d≤L.length∧L.length≤N+q.length∧L.length - d=(r++q).length:=by
 have e2:L.drop d=r++q:=e▸h.2.2
 exact⟨e2,h.1,by have:=h.2.1;omega,by rw[←e2,apW]⟩
theorem dl {x:Fx} {L r:List Fx} {a:Nat} {q0:Int} {q1:Int} {q2:Int} {q3:Int} {q4:Int} {q5:Int} {q6:Int} {q7:Int} {q8:Value} {q9:List Int} {q10:Value} {q11:List Int} {q12:Value} {q13:List Ke} {q14:Value} {q15:List Ke} (h:L.drop a=⟨q0,q1,q2,q3,q4,q5,q6,q7,q8,q9,q10,q11,q12,q13,q14,q15⟩::r) (e:L[a]?=some x):(x.fr=q0∧x.to=q1∧x.k=q2∧x.nv=q3∧x.b=q6∧x.vn=q7)∧x.n=q4∧x.c=q5∧x.vl=q9∧x.ml=q11∧x.l=q13∧x.tl=q15∧L.drop (a+1)=r∧a+1≤L.length∧L.length - (a+1)=r.length∧x.l.length=q13.length∧x.tl.length=q15.length:=by
 obtain⟨h1,h2,h3⟩:=aoZ h e
 subst h1
 exact⟨⟨rfl,rfl,rfl,rfl,rfl,rfl⟩,rfl,rfl,rfl,rfl,rfl,rfl,h2,h3,by rw[←h2,apW],rfl,rfl⟩
theorem dM {x:Fx} {l:List Ke} {n:Nat} (e:x.l=l.drop n) (h:bF l):bF x.l:=by rw[e];exact fun y hy=>h y (List.mem_of_mem_drop hy)
theorem bD {x l:List Ke} (e:x=l) (h:bF l):bF x:=e▸h
theorem jz {l m:List Ke} (h:l++m.drop l.length=m):l.length≤m.length:=by rw[←h,apv];omega
theorem Oe {l m:List Ke} (h:l++m.drop l.length=m) (e:m.length≤l.length):l=m:=by rw[List.drop_eq_nil_of_le e,List.append_nil]at h;exact h
theorem wx {l' l x m:List Ke} {n:Int} (e:l'=l++x) (f:x=m.drop n.toNat) (g:n=(l.length:Int)) (h:l++m.drop l.length=m):l'=m:=by subst e f g;simpa using h
theorem dS {l m:List Ke} (e:l=m):l++m.drop l.length=m:=by subst e;simp
theorem gB {maj:Nat} {com c2:Int} {cl:List Int} {m:Int} (h:ib maj com c2 cl) (hm:1≤maj) (k:∀x∈cl,x≤m):com≤c2∧c2≤max com m:=by
 obtain⟨v,e,h1,_⟩:=h
 have hv:v≤m:=by
  cases hf:cl.filter (fun x=>decide (v≤x)) with
  |nil=>rw[hf]at h1;simp at h1;omega
  |cons y r=>
   have hy:y∈cl.filter (fun x=>decide (v≤x)):=by rw[hf];exact List.mem_cons_self
   have:=List.mem_filter.1 hy
   have h3:=k y this.1
   have h4:v≤y:=of_decide_eq_true this.2
   omega
 omega
theorem mj {c d n m:Int} (h:d=max c n) (hn:n=m) (hc:c≤m):d=m:=by omega
theorem xy {r c x m h L:Int} (e:r=max c (min x L)) (hx:x=h) (hL:L=m) (h1:h≤m) (h2:c≤m):c≤r∧r≤m∧h≤r:=by omega
theorem oO {c d m:Int} (h:c≤d∧d≤max c m) (hc:c≤m):c≤d∧d≤m:=by omega
theorem BA {maj:Nat} {com c2:Int} {cl:List Int} {m:Int} (h:ib maj com c2 cl) (hm:1≤maj) (hl:maj≤cl.length) (k:∀x∈cl,x=m):c2=max com m:=by
 have hb:=gB (m:=m) h hm (fun x hx=>by rw[k x hx];omega)
 obtain⟨v,e,_,h2⟩:=h
 have h3:=h2 m (by rw[List.filter_eq_self.2 (fun x hx=>by rw[k x hx];simp)];exact hl)
 omega
noncomputable def gOf (M:T) (i:Nat):Nat:=match M.get i with
 |some (.blk _ _ _ ((_::.int _ (.ofNat n)::_)::_))=>n
 |_=>9
theorem tz {b x y:Bool} (h:(Bool.rec (motive:=fun _=>Bool) x y b)=true):(b=true∧y=true)∨(b=false∧x=true):=by cases b;exact .inr ⟨rfl,h⟩;exact .inl ⟨rfl,h⟩
theorem Dz {c r h:Int} {n m:Nat} (e:c≤r∧r≤(m:Int)∧h≤r) (f:n=m) (h0:0≤c):0≤r∧r≤(n:Int)∧m≤n+16:=by omega
theorem Dy {c h r t:Int} {m:Nat} {Q:Prop} (ip:1≤t→h=(m:Int)∧Q) (e:c≤r∧r≤(m:Int)∧h≤r):2≤t+1→r=(m:Int):=fun k=>by have:=(ip (by omega)).1;omega
theorem Dx {g:Int} {n m:Nat} (e:g=(m:Int)) (f:n=m):g=(n:Int):=by omega
theorem tmb (k:Int) (hk:0<k) (z:Int): -k<z.tmod k∧z.tmod k<k:=⟨by have:=Int.lt_tmod_of_pos z hk;omega,Int.tmod_lt_of_pos z hk⟩
theorem tmp (k:Int) (hk:0<k) (z:Int) (h:0≤z):0≤z.tmod k∧z.tmod k<k:=⟨Int.tmod_nonneg k h,Int.tmod_lt_of_pos z hk⟩
theorem tdp (z:Int) (h:0≤z):0≤z.tdiv 16∧z.tdiv 16≤z:=by
 rw[Int.tdiv_eq_ediv_of_nonneg h]
 omega
end Go.Proofs.Tryz
namespace Go.Proofs.Tryz
open Go.Proofs.YtjhpjjbnojbikaaGreat (dW fj eP fY fS kN)
open Go Go.RowKit Go.Sy
open Go.Eng hiding ae
set_option maxRecDepth 1000000
set_option linter.unusedVariables false
set_option maxHeartbeats 4000000
def Nd:XF:=.mk 8 (.one 2) (.aft (.seq (g_ 1 [p_ 0 2 (.mv N_)]) (.seq (.seq (g_ 2 [p_ 0 3 (m_ 0),p_ 1 4 (.isn false 2 (.t 3))]) (.cond (.t 4) (.seq (g_ 1 [p_ 0 2 (.mv N_)]) .ret) .skip)) (.seq (g_ 4 [e_ 0 5 (.bsl 52 2 0 [] [] []),p_ 1 6 (m_ 0),e_ 2 7 (.app 52 2 4 (.t 5) (.t 6)),p_ 3 2 (m_ 7)]) .ret))) [(1,[.lit 2 [[(1,.ofNat 1),(2,.ofNat 1)],[(1,.ofNat 2),(2,.ofNat 1)]]])])
theorem TQ:bN Tryz.prog 48 Nd=true:=by kernel_rfl
structure dC where (h:Value) (l:List Int)
noncomputable def dX (p:dC):IE:=([.sy (.imm p.h 2 Int p.l aG)],.leaf,0)
noncomputable def XA (p:dC) (K:KE):Bool:=K (.sl 0 0 2 (.rest 0)) (n0 gK) 1
def cJ (p:dC):Prop:=p.l=[(1:Int),(2:Int)]
theorem ek {w:dC} {k:dC→Bool} (h3:k w=true) (h2:cJ w:=by(try dsimp only[cJ]);assumption):aL dX cJ w k=true:=aV h2 h3
theorem aaN:Vf cJ XA 0 tN aJ Nd dX:=by
 intro p K hpre hK
 refine Eq.trans (b:=(iP (nM p.h→p.l=[]) (iP (nM p.h) (K .nilS .leaf 0) (iP (p.l=[]) (K (.sl 0 0 0 (.ex 0)) (n0 (.blk false 52 2 [])) 1) (mP (bQ 4 p.l.length) (mP (p.l.length=2∧p.l.length=p.l.length) (mP (p.l.map (fun x=>(aG x).map bw)=[[((1:Nat),(.ofNat 1:Int)),((2:Nat),(.ofNat 1:Int))],[((1:Nat),(.ofNat 2:Int)),((2:Nat),(.ofNat 1:Int))]].map (fun e=>e.map fun p=>Value.int (cR p.1) p.2)) (K (.sl 0 0 2 (.rest 0)) (n0 gK) 1)))))) true)) (by kernel_rfl) ?_
 dsimp only[cJ]at hpre
 have hvl:=hpre
 have hvn:=congrArg List.length hvl
 simp only[apw,apy]at hvn
 refine iJ fun hi1=> ?_
 apply iI<;>intro hc2
 exfalso;simp_all
 apply iI<;>intro hc3
 have hc3l:(p.l).length=0:=(by rw[hc3];rfl)
 exfalso;simp_all
 have hc3l:0<(p.l).length:=List.length_pos_iff.2 hc3
 refine cz (mI (by rw[hvl];exact⟨rfl,rfl⟩) (mI (by first|(rw[hvl];rfl)|(subst hvl;rfl)) ?_))
 exact hK
noncomputable def Jl:NN:=ck tN (nE TQ aaN) [(0,23)]
def Qb:=fun v0 v1=>(.mk 46 (.one 2) (.seq (g_ 2 [e_ 0 1 (.box 45 (.t 0)),p_ 1 2 (.mv F_)]) (.seq (.seq (g_ 20 [p_ 0 6 (f_ 0 1),r_ 1 7 (l_ 6),p_ 2 8 (.bin 3 3 (.t 7) (v_ 1 4)),p_ 3 9 (m_ 8),ah 4 10 9 false (f_ 1 1),aT 5 11 9 false (l_ 10),ah 6 12 9 false (.bin 3 4 (.t 11) (v_ 3 0)),p_ 7 13 (.pick (.t 9) T_ (.t 12)),p_ 8 14 (m_ 13),ah 9 15 14 false (f_ 2 1),aT 10 16 14 false (l_ 15),ah 11 17 14 false (k_ 16),ah 12 18 14 false (.bin 3 4 (.t 17) (i_ 0)),p_ 13 19 (.pick (.t 14) T_ (.t 18)),p_ 14 20 (m_ 19),ah 15 21 20 false (f_ 2 1),aT 16 22 20 false (l_ 21),ah 17 23 20 false (k_ 22),ah 18 24 20 false (.bin 3 2 (.t 23) (i_ 8)),p_ 19 25 (.pick (.t 20) T_ (.t 24))]) (.cond (.t 25) (.seq (g_ 1 [p_ 0 2 (.mv F_)]) .ret) .skip)) (.seq (g_ 1 [e_ 0 3 (.al 128 [.bool false,.bool false,.bool false,.bool false,.bool false,.bool false,.bool false,.bool false,.bool false,.bool false,.bool false,.bool false,.bool false,.bool false,.bool false,.bool false])]) (.seq (.seq (g_ 4 [p_ 0 26 (f_ 2 1),r_ 1 27 (l_ 26),p_ 2 28 (k_ 27),p_ 3 29 (.mv (i_ 0))]) (.block 2 (.loop [2,3,5,27,28,29,30,31,32,33,34,35,36,37,38,39,40,41,42,43,44,45] (.seq (.aft (g_ 1 [p_ 0 30 (.bin 3 0 (.t 29) (.t 28))]) [(0,[.fixb 30 29 29 v0 v0])]) (.seq (.cond (.t 30) .skip (.exit 2)) (.seq (.block 3 (.seq (.aft (g_ 4 [p_ 0 31 (.ixs 2 (.t 27) (.t 29)),r_ 1 32 (.ld true 2 (.t 31)),e_ 2 5 DL,aK 3 (.st 2 (.t 5) (.t 32))]) [(0,[.fixq 5 0 29 29 v1 v1])]) (.seq (.seq (g_ 9 [r_ 0 33 (.ld true 2 (.t 5)),c_ 1 34 44 [.t 33],p_ 2 35 (.un 0 (.t 34)),p_ 3 36 (m_ 35),ah 4 37 36 false (f_ 0 5),aT 5 38 36 false (l_ 37),ah 6 39 36 false (.ixa 16 1 (.t 3) (.t 38)),aT 7 40 36 false (l_ 39),p_ 8 41 (.pick (.t 36) T_ (.t 40))]) (.cond (.t 41) (.seq (g_ 1 [p_ 0 2 (.mv F_)]) .ret) .skip)) (g_ 4 [p_ 0 42 (f_ 0 5),r_ 1 43 (l_ 42),p_ 2 44 (.ixa 16 1 (.t 3) (.t 43)),aK 3 (.st 1 (.t 44) T_)])))) (g_ 2 [p_ 0 45 (.bin 0 0 (.t 29) (i_ 1)),p_ 1 29 (m_ 45)]))))))) (.seq (g_ 1 [p_ 0 2 (.mv T_)]) .ret))))):XF)
def xK:XF:=Qb 2 [1,2]
theorem zE:bN Tryz.prog 58 xK=true:=by kernel_rfl
abbrev AH:=dC
noncomputable def Kw (p:AH):IE:=([MA 1 p.h p.l],.leaf,0)
noncomputable def TJ (p:AH) (K:KE):Bool:=K (.bool true) .leaf 0
def ot (p:AH):Prop:=p.l=[(1:Int),(2:Int)]
theorem Us:Vf ot TJ 0 Jl aJ xK Kw:=by
 intro p K hpre hK
 refine Eq.trans (b:=(iP ((p.l.length:Int)=0) (K (.bool false) .leaf 0) (iP (8<(p.l.length:Int)) (K (.bool false) .leaf 0) (mP (0<(p.l.length:Int)) (mP (0≤(0:Int)∧(0:Int)<(p.l.length:Int)) (ae fun x1:Int=>iP (p.l[0]?=some x1) (iP (x1=1) (mP (1<(p.l.length:Int)) (mP (0≤(1:Int)∧(1:Int)<(p.l.length:Int)) (ae fun x2:Int=>iP (p.l[1]?=some x2) (iP (x2=2) (mP (¬(2<(p.l.length:Int))) (K (.bool true) .leaf 0)) mF) true))) mF) true)))))) (by kernel_rfl) ?_
 dsimp only[ot]at hpre
 have hvl:=hpre
 have hvn:=congrArg List.length hvl
 simp only[apw,apy]at hvn
 refine iX fun hc1=> ?_
 refine iX fun hc2=> ?_
 refine aX (bE ?_)
 refine ac fun x1=> ?_
 refine iJ fun hi3=> ?_
 have e_x1:=hi3
 rw[hvl]at e_x1
 simp at e_x1
 apply iI<;>intro hc4
 refine aX (bE ?_)
 refine ac fun x2=> ?_
 refine iJ fun hi5=> ?_
 have e_x2:=hi5
 rw[hvl]at e_x2
 simp at e_x2
 apply iI<;>intro hc6
 refine aX ?_
 exact hK
 refine aX ?_
 rfl
 refine aX ?_
 rfl
noncomputable def nc_rightV3_1:EE 58 0:=bA (fun us M=>aA (ua us 0 2) (Nat.beq (aC us 0 1) 1)) (nE zE Us) eS
noncomputable def Du:NN:=bB Jl nc_rightV3_1.2 [(0,15)] (fun us=>ua us 0 2)
abbrev AG:=dC
noncomputable def ts (p:AG):IE:=([MA 2 p.h p.l],.leaf,0)
noncomputable def TI (p:AG) (K:KE):Bool:=K (.bool true) .leaf 0
def fk (p:AG):Prop:=p.l=[(1:Int),(2:Int)]
theorem Ur:Vf fk TI 0 Du aJ xK ts:=by
 intro p K hpre hK
 refine Eq.trans (b:=(iP ((p.l.length:Int)=0) (K (.bool false) .leaf 0) (iP (8<(p.l.length:Int)) (K (.bool false) .leaf 0) (mP (0<(p.l.length:Int)) (mP (0≤(0:Int)∧(0:Int)<(p.l.length:Int)) (ae fun x1:Int=>iP (p.l[0]?=some x1) (iP (x1=1) (mP (1<(p.l.length:Int)) (mP (0≤(1:Int)∧(1:Int)<(p.l.length:Int)) (ae fun x2:Int=>iP (p.l[1]?=some x2) (iP (x2=2) (mP (¬(2<(p.l.length:Int))) (K (.bool true) .leaf 0)) mF) true))) mF) true)))))) (by kernel_rfl) ?_
 dsimp only[fk]at hpre
 have hvl:=hpre
 have hvn:=congrArg List.length hvl
 simp only[apw,apy]at hvn
 refine iX fun hc1=> ?_
 refine iX fun hc2=> ?_
 refine aX (bE ?_)
 refine ac fun x1=> ?_
 refine iJ fun hi3=> ?_
 have e_x1:=hi3
 rw[hvl]at e_x1
 simp at e_x1
 apply iI<;>intro hc4
 refine aX (bE ?_)
 refine ac fun x2=> ?_
 refine iJ fun hi5=> ?_
 have e_x2:=hi5
 rw[hvl]at e_x2
 simp at e_x2
 apply iI<;>intro hc6
 refine aX ?_
 exact hK
 refine aX ?_
 rfl
 refine aX ?_
 rfl
noncomputable def nc_rightV3_2:EE 58 0:=bA (fun us M=>aA (ua us 0 2) (Nat.beq (aC us 0 1) 2)) (nE zE Ur) nc_rightV3_1
noncomputable def Dt:NN:=bB Du nc_rightV3_2.2 [(0,15)] (fun us=>ua us 0 2)
abbrev Gi:=gT
noncomputable def SW (p:Gi):IE:=([eR 9 1 p.x_n p.x_c 257 [] 0 p.x_vh p.x_vl p.x_mh p.x_ml p.x_h p.x_l p.x_th p.x_tl],.leaf,0)
noncomputable def Xy (p:Gi) (K:KE):Bool:=K (.bool true) .leaf 0
def sE (p:Gi):Prop:=p.x_vl=[]∧p.x_l=[]∧p.x_ml=[(1:Int),(2:Int)]∧bF p.x_tl∧p.x_tl.length≤400∧p.x_n=0∧p.x_c=0
theorem aaJ:Vf sE Xy 0 Dt aJ gj SW:=by
 intro p K hpre hK
 refine Eq.trans (b:=(let z0:Bool:=(K (.bool false) .leaf 0);aL Kw ot ⟨p.x_mh,p.x_ml⟩ fun p1=>iP ((p.x_tl.length:Int)≤400) (aL vj ij ⟨p.x_th,p.x_tl⟩ fun p2=>mE (.imm p.x_th 18 Ke p.x_tl au) (aa (qL [qI 3 p.x_n,qI 3 p.x_c,qY ((.imm p.x_vh 2 Int p.x_vl aG)),qY ((.imm p.x_mh 2 Int p.x_ml aG)),qY ((.imm p.x_h 18 Ke p.x_l au)),qY ((.imm p.x_th 18 Ke p.x_tl au))]) (iP (¬(p.x_vl.length:Int)=0) (iP (p.x_n=(0:Int)) (iP (p.x_c=(0:Int)) z0 z0) z0) (iP (0<(p.x_vl.length:Int)) (mP (0≤(0:Int)∧(0:Int)<(p.x_vl.length:Int)) (ae fun x1:Int=>iP (p.x_vl[0]?=some x1) (false) true)) (aL HA mR ⟨p.x_mh,p.x_ml,p.x_mh,p.x_ml⟩ fun p3=>iP (¬(p.x_l.length:Int)=0) (iP (p.x_n=(0:Int)) (iP (p.x_c=(0:Int)) z0 z0) z0) (iP (0<(p.x_l.length:Int)) (mP (0≤(0:Int)∧(0:Int)<(p.x_l.length:Int)) (ae fun x2:Ke=>iP (p.x_l[0]?=some x2) (false) true)) (aL tu fX ⟨p.x_th,p.x_tl,p.x_th,p.x_tl⟩ fun p4=>iP (p.x_n=(0:Int)) (iP (p.x_c=(0:Int)) (K (.bool true) .leaf 0) z0) z0))))))) z0)) (by kernel_rfl) ?_
 dsimp only[sE]at hpre
 obtain⟨h_vl,h_l,h_ml,k_tl,u_tl,m0,m1⟩:=hpre
 have e_vl:=congrArg List.length h_vl
 have e_l:=congrArg List.length h_l
 have e_ml:=congrArg List.length h_ml
 simp only[apy,apw]at e_vl e_l e_ml
 refine aV (by(try dsimp only[ot]);assumption) ?_
 refine iY fun hc1=> ?_
 refine xU ?_
 refine aH ?_
 refine cq ?_
 apply iI<;>intro hc2
 refine iY fun hc3=> ?_
 refine iX fun hc4=> ?_
 exfalso;omega
 apply iI<;>intro hc5
 refine bE ?_
 refine ac fun x1=> ?_
 refine iJ fun hi6=> ?_
 exfalso;omega
 refine Nm ?_
 apply iI<;>intro hc7
 refine iY fun hc8=> ?_
 refine iX fun hc9=> ?_
 exfalso;omega
 apply iI<;>intro hc10
 refine bE ?_
 refine ac fun x2=> ?_
 refine iJ fun hi11=> ?_
 exfalso;omega
 refine xT ?_
 refine iY fun hc12=> ?_
 refine iY fun hc13=> ?_
 exact hK
noncomputable def nc_mr9_1_3:EE 108 0:=bA (fun us M=>aA (Nat.beq (aC us 0 0) 9) (Nat.beq (aC us 0 3) 1)) (nE eQ aaJ) nc_mr4_2
noncomputable def Jh:NN:=ck Dt nc_mr9_1_3.2 [(0,15)]
abbrev Dd:=gT
noncomputable def NJ (p:Dd):IE:=([eR 10 0 p.x_n p.x_c 0 [] 2 p.x_vh p.x_vl p.x_mh p.x_ml p.x_h p.x_l p.x_th p.x_tl],.leaf,0)
noncomputable def UE (p:Dd) (K:KE):Bool:=K (.bool true) .leaf 0
def qh (p:Dd):Prop:=p.x_ml=[]∧p.x_tl=[]∧p.x_vl=[(1:Int),(2:Int)]∧bF p.x_l∧p.x_l.length≤400∧p.x_n=0∧p.x_c=0
theorem Xh:Vf qh UE 0 Jh aJ gj NJ:=by
 intro p K hpre hK
 refine Eq.trans (b:=(let z0:Bool:=(K (.bool false) .leaf 0);aL ts fk ⟨p.x_vh,p.x_vl⟩ fun p1=>iP ((p.x_l.length:Int)≤400) (aL vj ij ⟨p.x_h,p.x_l⟩ fun p2=>aa (qL [qI 3 p.x_n,qI 3 p.x_c,qY ((.imm p.x_vh 2 Int p.x_vl aG)),qY ((.imm p.x_mh 2 Int p.x_ml aG)),qY ((.imm p.x_h 18 Ke p.x_l au)),qY ((.imm p.x_th 18 Ke p.x_tl au))]) (aL HA mR ⟨p.x_vh,p.x_vl,p.x_vh,p.x_vl⟩ fun p3=>iP (¬(p.x_ml.length:Int)=0) (iP (p.x_n=(0:Int)) (iP (p.x_c=(0:Int)) z0 z0) z0) (iP (0<(p.x_ml.length:Int)) (mP (0≤(0:Int)∧(0:Int)<(p.x_ml.length:Int)) (ae fun x1:Int=>iP (p.x_ml[0]?=some x1) (false) true)) (aL tu fX ⟨p.x_h,p.x_l,p.x_h,p.x_l⟩ fun p4=>iP (¬(p.x_tl.length:Int)=0) (iP (p.x_n=(0:Int)) (iP (p.x_c=(0:Int)) z0 z0) z0) (iP (0<(p.x_tl.length:Int)) (mP (0≤(0:Int)∧(0:Int)<(p.x_tl.length:Int)) (ae fun x2:Ke=>iP (p.x_tl[0]?=some x2) (false) true)) (iP (p.x_n=(0:Int)) (iP (p.x_c=(0:Int)) (K (.bool true) .leaf 0) z0) z0)))))) z0)) (by kernel_rfl) ?_
 dsimp only[qh]at hpre
 obtain⟨h_ml,h_tl,h_vl,k_l,u_l,m0,m1⟩:=hpre
 have e_ml:=congrArg List.length h_ml
 have e_tl:=congrArg List.length h_tl
 have e_vl:=congrArg List.length h_vl
 simp only[apy,apw]at e_ml e_tl e_vl
 refine aV (by(try dsimp only[fk]);assumption) ?_
 refine iY fun hc1=> ?_
 refine xU ?_
 refine cq ?_
 refine Nm ?_
 apply iI<;>intro hc2
 refine iY fun hc3=> ?_
 refine iX fun hc4=> ?_
 exfalso;omega
 apply iI<;>intro hc5
 refine bE ?_
 refine ac fun x1=> ?_
 refine iJ fun hi6=> ?_
 exfalso;omega
 refine xT ?_
 apply iI<;>intro hc7
 refine iY fun hc8=> ?_
 refine iX fun hc9=> ?_
 exfalso;omega
 apply iI<;>intro hc10
 refine bE ?_
 refine ac fun x2=> ?_
 refine iJ fun hi11=> ?_
 exfalso;omega
 refine iY fun hc12=> ?_
 refine iY fun hc13=> ?_
 exact hK
noncomputable def nc_mr10_0_3:EE 108 0:=bA (fun us M=>aA (Nat.beq (aC us 0 0) 10) (Nat.beq (aC us 0 3) 0)) (nE eQ Xh) nc_mr9_1_3
noncomputable def Er:NN:=ck Jh nc_mr10_0_3.2 [(0,15)]
def w_3:=fun v0=>(.mk 19 (.one 4) (.seq (g_ 2 [e_ 0 3 (.box 52 (.t 1)),p_ 1 4 (.mv (i_ 0))]) (.seq (.seq (g_ 3 [p_ 0 6 (m_ 0),p_ 1 7 (k_ 6),p_ 2 8 (.mv (i_ 0))]) (.block 2 (.loop [0,3,4,5,7,8,9,10,11,12,13,14,15,16,17,18] (.seq (.aft (g_ 1 [p_ 0 9 (.bin 3 0 (.t 8) (.t 7))]) [(0,[.fixb 9 8 8 v0 v0])]) (.seq (.cond (.t 9) .skip (.exit 2)) (.seq (.block 3 (.seq (g_ 2 [p_ 0 10 (m_ 8),p_ 1 5 (m_ 10)]) (.seq (h_ 6 [r_ 0 11 (.ld true 2 (.t 3)),p_ 1 12 (m_ 0),p_ 2 13 (m_ 5),p_ 3 14 (.ixs 2 (.t 12) (.t 13)),r_ 4 15 (.ld true 2 (.t 14)),p_ 5 16 (.eqs false 2 (.st [(0,1,false,.int),(1,1,false,.int)]) (.t 11) (.t 15))]) (.cond (.t 16) (.seq (g_ 2 [p_ 0 17 (m_ 5),p_ 1 4 (m_ 17)]) .ret) .skip)))) (g_ 2 [p_ 0 18 (.bin 0 0 (.t 8) (i_ 1)),p_ 1 8 (m_ 18)]))))))) (.seq (g_ 1 [p_ 0 4 (.mv (.c (.int 0 (.negSucc 0))))]) .ret))):XF)
def tj:XF:=w_3 2
theorem rN:bN Tryz.prog 59 tj=true:=by kernel_rfl
abbrev Dk:=dC
noncomputable def vi (p:Dk):IE:=([.sy (.imm p.h 2 Int p.l aG),dL 0],.leaf,0)
noncomputable def UL (p:Dk) (K:KE):Bool:=K (.int 0 (.negSucc 0)) .leaf 0
def fQ (p:Dk):Prop:=p.l=[(1:Int),(2:Int)]
theorem Xo:Vf fQ UL 0 Er aJ tj vi:=by
 intro p K hpre hK
 refine Eq.trans (b:=(mP (0<(p.l.length:Int)) (mP (0≤(0:Int)∧(0:Int)<(p.l.length:Int)) (ae fun x1:Int=>iP (p.l[0]?=some x1) (iP ((0:Int)=x1) (K (.int 0 (.ofNat 0)) .leaf 0) (mP (1<(p.l.length:Int)) (mP (0≤(1:Int)∧(1:Int)<(p.l.length:Int)) (ae fun x2:Int=>iP (p.l[1]?=some x2) (iP ((0:Int)=x2) (K (.int 0 (.ofNat 1)) .leaf 0) (mP (¬(2<(p.l.length:Int))) (K (.int 0 (.negSucc 0)) .leaf 0))) true)))) true)))) (by kernel_rfl) ?_
 dsimp only[fQ]at hpre
 have hvl:=hpre
 have hvn:=congrArg List.length hvl
 simp only[apw,apy]at hvn
 refine aX (bE ?_)
 refine ac fun x1=> ?_
 refine iJ fun hi1=> ?_
 have e_x1:=hi1
 rw[hvl]at e_x1
 simp at e_x1
 refine iX fun hc2=> ?_
 refine aX (bE ?_)
 refine ac fun x2=> ?_
 refine iJ fun hi3=> ?_
 have e_x2:=hi3
 rw[hvl]at e_x2
 simp at e_x2
 refine iX fun hc4=> ?_
 refine aX ?_
 exact hK
noncomputable def nc_index3_0:EE 59 0:=bA (fun us M=>Nat.beq (aC us 1 0) 0) (nE rN Xo) eS
noncomputable def Ey:NN:=ck Er nc_index3_0.2 [(0,23),(1,15)]
abbrev Dj:=dC
noncomputable def vg (p:Dj):IE:=([.sy (.imm p.h 2 Int p.l aG),dL 1],.leaf,0)
noncomputable def UK (p:Dj) (K:KE):Bool:=K (.int 0 (.ofNat 0)) .leaf 0
def fO (p:Dj):Prop:=p.l=[(1:Int),(2:Int)]
theorem Xn:Vf fO UK 0 Ey aJ tj vg:=by
 intro p K hpre hK
 refine Eq.trans (b:=(mP (0<(p.l.length:Int)) (mP (0≤(0:Int)∧(0:Int)<(p.l.length:Int)) (ae fun x1:Int=>iP (p.l[0]?=some x1) (iP ((1:Int)=x1) (K (.int 0 (.ofNat 0)) .leaf 0) (mP (1<(p.l.length:Int)) (mP (0≤(1:Int)∧(1:Int)<(p.l.length:Int)) (ae fun x2:Int=>iP (p.l[1]?=some x2) (iP ((1:Int)=x2) (K (.int 0 (.ofNat 1)) .leaf 0) (mP (¬(2<(p.l.length:Int))) (K (.int 0 (.negSucc 0)) .leaf 0))) true)))) true)))) (by kernel_rfl) ?_
 dsimp only[fO]at hpre
 have hvl:=hpre
 have hvn:=congrArg List.length hvl
 simp only[apw,apy]at hvn
 refine aX (bE ?_)
 refine ac fun x1=> ?_
 refine iJ fun hi1=> ?_
 have e_x1:=hi1
 rw[hvl]at e_x1
 simp at e_x1
 apply iI<;>intro hc2
 exact hK
 refine aX (bE ?_)
 refine ac fun x2=> ?_
 refine iJ fun hi3=> ?_
 have e_x2:=hi3
 rw[hvl]at e_x2
 simp at e_x2
 refine iX fun hc4=> ?_
 refine aX ?_
 exfalso;omega
noncomputable def nc_index3_1:EE 59 0:=bA (fun us M=>Nat.beq (aC us 1 0) 1) (nE rN Xn) nc_index3_0
noncomputable def Ex:NN:=ck Ey nc_index3_1.2 [(0,23),(1,15)]
abbrev Di:=dC
noncomputable def Db (p:Di):IE:=([.sy (.imm p.h 2 Int p.l aG),dL 2],.leaf,0)
noncomputable def UJ (p:Di) (K:KE):Bool:=K (.int 0 (.ofNat 1)) .leaf 0
def jy (p:Di):Prop:=p.l=[(1:Int),(2:Int)]
theorem Xm:Vf jy UJ 0 Ex aJ tj Db:=by
 intro p K hpre hK
 refine Eq.trans (b:=(mP (0<(p.l.length:Int)) (mP (0≤(0:Int)∧(0:Int)<(p.l.length:Int)) (ae fun x1:Int=>iP (p.l[0]?=some x1) (iP ((2:Int)=x1) (K (.int 0 (.ofNat 0)) .leaf 0) (mP (1<(p.l.length:Int)) (mP (0≤(1:Int)∧(1:Int)<(p.l.length:Int)) (ae fun x2:Int=>iP (p.l[1]?=some x2) (iP ((2:Int)=x2) (K (.int 0 (.ofNat 1)) .leaf 0) (mP (¬(2<(p.l.length:Int))) (K (.int 0 (.negSucc 0)) .leaf 0))) true)))) true)))) (by kernel_rfl) ?_
 dsimp only[jy]at hpre
 have hvl:=hpre
 have hvn:=congrArg List.length hvl
 simp only[apw,apy]at hvn
 refine aX (bE ?_)
 refine ac fun x1=> ?_
 refine iJ fun hi1=> ?_
 have e_x1:=hi1
 rw[hvl]at e_x1
 simp at e_x1
 refine iX fun hc2=> ?_
 refine aX (bE ?_)
 refine ac fun x2=> ?_
 refine iJ fun hi3=> ?_
 have e_x2:=hi3
 rw[hvl]at e_x2
 simp at e_x2
 apply iI<;>intro hc4
 exact hK
 refine aX ?_
 exfalso;omega
noncomputable def nc_index3_2:EE 59 0:=bA (fun us M=>Nat.beq (aC us 1 0) 2) (nE rN Xm) nc_index3_1
noncomputable def Ew:NN:=ck Ex nc_index3_2.2 [(0,23),(1,15)]
def w_4:=fun v0 v1=>(.mk 52 (.one 6) (.seq (g_ 3 [e_ 0 3 (.box 45 (.t 0)),e_ 1 4 (.box 52 (.t 1)),p_ 2 6 (.mv (.c .nilP))]) (.seq (.seq (g_ 14 [r_ 0 10 (.ld true 3 (.t 3)),c_ 1 11 58 [.t 10],p_ 2 12 (.un 0 (.t 11)),p_ 3 13 (m_ 12),aT 4 14 13 false (.ld true 3 (.t 3)),aT 5 15 13 false (.ld true 2 (.t 4)),cG 6 16 13 false 45 [.t 14,.t 15],ah 7 17 13 false (.bin 3 0 (.t 16) (i_ 0)),p_ 8 18 (.pick (.t 13) T_ (.t 17)),p_ 9 19 (m_ 18),ah 10 20 19 false (m_ 2),ah 11 21 19 false (k_ 20),ah 12 22 19 false (.bin 3 2 (.t 21) (i_ 400)),p_ 13 23 (.pick (.t 19) T_ (.t 22))]) (.cond (.t 23) (.seq (g_ 1 [p_ 0 6 (.mv (.c .nilP))]) .ret) .skip)) (.seq (.reg true 13 (.split 1 9 (.split 4 9 (.leaf [r_ 0 24 (.ld true 3 (.t 3)),r_ 2 26 (.ld true 2 (.t 4)),p_ 3 27 (m_ 2),p_ 5 29 (m_ 2),p_ 6 30 (k_ 29),p_ 7 31 (m_ 2),p_ 8 32 (k_ 31),c_ 1 25 38 [.t 24],a_ 2 26 (.ld true 2 (.t 4)),c_ 4 28 54 [.t 27],a_ 2 26 (.ld true 2 (.t 4)),e_ 9 33 .mkm,a_ 2 26 (.ld true 2 (.t 4)),p_ 10 34 YE,e_ 11 35 (.box 104 (.t 34)),p_ 12 7 (m_ 35)]) (.leaf [r_ 0 24 (.ld true 3 (.t 3)),r_ 2 26 (.ld true 2 (.t 4)),p_ 3 27 (m_ 2),p_ 5 29 (m_ 2),p_ 6 30 (k_ 29),p_ 7 31 (m_ 2),p_ 8 32 (k_ 31),c_ 1 25 38 [.t 24],a_ 2 26 (.ld true 2 (.t 4)),e_ 9 33 .mkm,a_ 2 26 (.ld true 2 (.t 4)),c_ 4 28 54 [.t 27],a_ 2 26 (.ld true 2 (.t 4)),p_ 10 34 YE,e_ 11 35 (.box 104 (.t 34)),p_ 12 7 (m_ 35)])) (.leaf [r_ 0 24 (.ld true 3 (.t 3)),r_ 2 26 (.ld true 2 (.t 4)),p_ 3 27 (m_ 2),p_ 5 29 (m_ 2),p_ 6 30 (k_ 29),p_ 7 31 (m_ 2),p_ 8 32 (k_ 31),e_ 9 33 .mkm,a_ 0 24 (.ld true 3 (.t 3)),a_ 2 26 (.ld true 2 (.t 4)),c_ 1 25 38 [.t 24],a_ 2 26 (.ld true 2 (.t 4)),c_ 4 28 54 [.t 27],a_ 2 26 (.ld true 2 (.t 4)),p_ 10 34 YE,e_ 11 35 (.box 104 (.t 34)),p_ 12 7 (m_ 35)]))) (.seq (.seq (g_ 4 [p_ 0 36 (f_ 2 3),r_ 1 37 (l_ 36),p_ 2 38 (k_ 37),p_ 3 39 (.mv (i_ 0))]) (.block 2 (.loop [2,6,7,9,37,38,39,40,41,42,43,44,45,46,47,48,49,50,51] (.seq (.aft (g_ 1 [p_ 0 40 (.bin 3 0 (.t 39) (.t 38))]) [(0,[.fixb 40 39 39 v0 v0])]) (.seq (.cond (.t 40) .skip (.exit 2)) (.seq (.block 3 (.seq (.aft (g_ 4 [p_ 0 41 (.ixs 2 (.t 37) (.t 39)),r_ 1 42 (.ld true 2 (.t 41)),e_ 2 9 DL,aK 3 (.st 2 (.t 9) (.t 42))]) [(0,[.fixq 9 0 39 39 v1 v1])]) (h_ 8 [p_ 0 43 (m_ 7),p_ 1 44 (n_ 43),p_ 2 45 (f_ 9 44),r_ 3 46 (l_ 45),r_ 4 47 (.ld true 2 (.t 9)),p_ 5 48 (m_ 2),p_ 6 49 (k_ 48),aK 7 (.mu 2 (.st [(0,1,false,.int),(1,1,false,.int)]) (.t 46) (.t 47) (.t 49))]))) (g_ 2 [p_ 0 50 (.bin 0 0 (.t 39) (i_ 1)),p_ 1 39 (m_ 50)]))))))) (.seq (g_ 2 [p_ 0 51 (m_ 7),p_ 1 6 (m_ 51)]) .ret))))):XF)
def ud:XF:=w_4 2 [1,2]
theorem xL:bN Tryz.prog 60 ud=true:=by kernel_rfl
structure dJ where (h:Value) (l:List Int) (g:Value) (e:List Ke)
abbrev yg:=ch
def gh (p:dJ) (r:yg):Prop:=r.o=p.e∧r.o.length=p.e.length
noncomputable def yk (p:dJ):IE:=([(MA 2 p.h p.l),dL 1,.sy (.imm p.g 18 Ke p.e au)],.leaf,0)
noncomputable def oz (p:dJ) (K:KE) (r:yg):Bool:=K (.ptr 0 0) (Ud r.o (p.e.length:Int) (p.e.length:Int) (p.e.length:Int) (p.e.length:Int)) 4
noncomputable def AX (p:dJ) (K:KE):Bool:=ae fun r=>iP (gh p r) (oz p K r) true
def gR (p:dJ):Prop:=p.l=[(1:Int),(2:Int)]∧p.e.length≤400
theorem Bv {p:dJ} {K:KE} (hK:AX p K=true) {r:yg} (h:gh p r:=by dsimp only[gh]<;>assumption):oz p K r=true:=ax h (aq hK r)
theorem TF:Vf gR AX 0 Ew aJ ud yk:=by
 intro p K hpre hK
 refine Eq.trans (b:=(aL ts fk ⟨p.h,p.l⟩ fun p1=>aL vg fO ⟨p.h,p.l⟩ fun p2=>iP (400<(p.e.length:Int)) (K .nilP .leaf 0) (aa (cu (aL dX cJ ⟨p.h,p.l⟩ fun p3=>ay bT bp aQ ⟨p.g,p.e⟩ fun p4 r1=>mP (0<(p.l.length:Int)) (mP (0≤(0:Int)∧(0:Int)<(p.l.length:Int)) (ae fun x1:Int=>iP (p.l[0]?=some x1) (iP (x1=1) (mP (1<(p.l.length:Int)) (mP (0≤(1:Int)∧(1:Int)<(p.l.length:Int)) (ae fun x2:Int=>iP (p.l[1]?=some x2) (iP (x2=2) (mP (¬(2<(p.l.length:Int))) (oz p K ⟨r1.o⟩)) mF) true))) mF) true)))) (aa (qL [qY ((.imm p.h 2 Int p.l aG))]) (aL dX cJ ⟨p.h,p.l⟩ fun p7=>ay bT bp aQ ⟨p.g,p.e⟩ fun p8 r3=>mP (0<(p.l.length:Int)) (mP (0≤(0:Int)∧(0:Int)<(p.l.length:Int)) (ae fun x5:Int=>iP (p.l[0]?=some x5) (iP (x5=1) (mP (1<(p.l.length:Int)) (mP (0≤(1:Int)∧(1:Int)<(p.l.length:Int)) (ae fun x6:Int=>iP (p.l[1]?=some x6) (iP (x6=2) (mP (¬(2<(p.l.length:Int))) (oz p K ⟨r3.o⟩)) mF) true))) mF) true))))))) (by kernel_rfl) ?_
 dsimp only[gR]at hpre
 obtain⟨hpre,hlen⟩:=hpre
 have hvl:=hpre
 have hvn:=congrArg List.length hvl
 simp only[apw,apy]at hvn
 refine aV (by(try dsimp only[fk]);assumption) ?_
 refine aV (by(try dsimp only[fO]);assumption) ?_
 refine iX fun hc1=> ?_
 refine bI ?_ ?_
 refine bk ?_
 refine ek ?_
 refine bW fun r1 hi2=> ?_
 dsimp only[aQ]at hi2
 refine aX (bE ?_)
 refine ac fun x1=> ?_
 refine iJ fun hi3=> ?_
 have e_x1:=hi3
 rw[hvl]at e_x1
 simp at e_x1
 apply iI<;>intro hc4
 refine aX (bE ?_)
 refine ac fun x2=> ?_
 refine iJ fun hi5=> ?_
 have e_x2:=hi5
 rw[hvl]at e_x2
 simp at e_x2
 apply iI<;>intro hc6
 refine aX ?_
 exact Bv hK
 refine aX ?_
 rfl
 refine aX ?_
 rfl
 refine cq ?_
 refine ek ?_
 refine bW fun r3 hi7=> ?_
 dsimp only[aQ]at hi7
 refine aX (bE ?_)
 refine ac fun x5=> ?_
 refine iJ fun hi8=> ?_
 have e_x5:=hi8
 rw[hvl]at e_x5
 simp at e_x5
 apply iI<;>intro hc9
 refine aX (bE ?_)
 refine ac fun x6=> ?_
 refine iJ fun hi10=> ?_
 have e_x6:=hi10
 rw[hvl]at e_x6
 simp at e_x6
 apply iI<;>intro hc11
 refine aX ?_
 exact Bv hK
 refine aX ?_
 rfl
 refine aX ?_
 rfl
noncomputable def nc_newroll3_1:EE 60 0:=bA (fun us M=>Nat.beq (aC us 1 0) 1) (nE xL TF) eS
noncomputable def Bh:NN:=ck Ew nc_newroll3_1.2 [(0,15),(1,15),(2,23)]
abbrev jJ:=dJ
abbrev yf:=ch
def kQ (p:jJ) (r:yf):Prop:=r.o=p.e∧r.o.length=p.e.length
noncomputable def FY (p:jJ):IE:=([(MA 2 p.h p.l),dL 2,.sy (.imm p.g 18 Ke p.e au)],.leaf,0)
noncomputable def oy (p:jJ) (K:KE) (r:yf):Bool:=K (.ptr 0 0) (.node (.node (.node .leaf (some (Dq (p.e.length:Int) (p.e.length:Int))) .leaf) (some (gK)) .leaf) (some (ig 1 2 2 2 r.o.length (p.e.length:Int) (p.e.length:Int) 3)) (.node .leaf (some (aO r.o)) .leaf)) 4
noncomputable def AW (p:jJ) (K:KE):Bool:=ae fun r=>iP (kQ p r) (oy p K r) true
def mQ (p:jJ):Prop:=p.l=[(1:Int),(2:Int)]∧p.e.length≤400
theorem Bu {p:jJ} {K:KE} (hK:AW p K=true) {r:yf} (h:kQ p r:=by dsimp only[kQ]<;>assumption):oy p K r=true:=ax h (aq hK r)
theorem TE:Vf mQ AW 0 Bh aJ ud FY:=by
 intro p K hpre hK
 refine Eq.trans (b:=(aL ts fk ⟨p.h,p.l⟩ fun p1=>aL Db jy ⟨p.h,p.l⟩ fun p2=>iP (400<(p.e.length:Int)) (K .nilP .leaf 0) (aa (cu (aL dX cJ ⟨p.h,p.l⟩ fun p3=>ay bT bp aQ ⟨p.g,p.e⟩ fun p4 r1=>mP (0<(p.l.length:Int)) (mP (0≤(0:Int)∧(0:Int)<(p.l.length:Int)) (ae fun x1:Int=>iP (p.l[0]?=some x1) (iP (x1=1) (mP (1<(p.l.length:Int)) (mP (0≤(1:Int)∧(1:Int)<(p.l.length:Int)) (ae fun x2:Int=>iP (p.l[1]?=some x2) (iP (x2=2) (mP (¬(2<(p.l.length:Int))) (oy p K ⟨r1.o⟩)) mF) true))) mF) true)))) (aa (qL [qY ((.imm p.h 2 Int p.l aG))]) (aL dX cJ ⟨p.h,p.l⟩ fun p7=>ay bT bp aQ ⟨p.g,p.e⟩ fun p8 r3=>mP (0<(p.l.length:Int)) (mP (0≤(0:Int)∧(0:Int)<(p.l.length:Int)) (ae fun x5:Int=>iP (p.l[0]?=some x5) (iP (x5=1) (mP (1<(p.l.length:Int)) (mP (0≤(1:Int)∧(1:Int)<(p.l.length:Int)) (ae fun x6:Int=>iP (p.l[1]?=some x6) (iP (x6=2) (mP (¬(2<(p.l.length:Int))) (oy p K ⟨r3.o⟩)) mF) true))) mF) true))))))) (by kernel_rfl) ?_
 dsimp only[mQ]at hpre
 obtain⟨hpre,hlen⟩:=hpre
 have hvl:=hpre
 have hvn:=congrArg List.length hvl
 simp only[apw,apy]at hvn
 refine aV (by(try dsimp only[fk]);assumption) ?_
 refine aV (by(try dsimp only[jy]);assumption) ?_
 refine iX fun hc1=> ?_
 refine bI ?_ ?_
 refine bk ?_
 refine ek ?_
 refine bW fun r1 hi2=> ?_
 dsimp only[aQ]at hi2
 refine aX (bE ?_)
 refine ac fun x1=> ?_
 refine iJ fun hi3=> ?_
 have e_x1:=hi3
 rw[hvl]at e_x1
 simp at e_x1
 apply iI<;>intro hc4
 refine aX (bE ?_)
 refine ac fun x2=> ?_
 refine iJ fun hi5=> ?_
 have e_x2:=hi5
 rw[hvl]at e_x2
 simp at e_x2
 apply iI<;>intro hc6
 refine aX ?_
 exact Bu hK
 refine aX ?_
 rfl
 refine aX ?_
 rfl
 refine cq ?_
 refine ek ?_
 refine bW fun r3 hi7=> ?_
 dsimp only[aQ]at hi7
 refine aX (bE ?_)
 refine ac fun x5=> ?_
 refine iJ fun hi8=> ?_
 have e_x5:=hi8
 rw[hvl]at e_x5
 simp at e_x5
 apply iI<;>intro hc9
 refine aX (bE ?_)
 refine ac fun x6=> ?_
 refine iJ fun hi10=> ?_
 have e_x6:=hi10
 rw[hvl]at e_x6
 simp at e_x6
 apply iI<;>intro hc11
 refine aX ?_
 exact Bu hK
 refine aX ?_
 rfl
 refine aX ?_
 rfl
noncomputable def nc_newroll3_2:EE 60 0:=bA (fun us M=>Nat.beq (aC us 1 0) 2) (nE xL TE) nc_newroll3_1
noncomputable def Bg:NN:=ck Bh nc_newroll3_2.2 [(0,15),(1,15),(2,23)]
def w_5:=fun v0 v1=>(.mk 10 (.cell 2 true 2) (.aft (.seq (g_ 2 [e_ 0 1 (.box 130 (.t 0)),e_ 1 2 rp]) (.seq (h_ 8 [p_ 0 3 (f_ 0 1),r_ 1 4 (l_ 3),p_ 3 6 (f_ 1 1),r_ 4 7 (l_ 6),c_ 2 5 48 [.t 4],a_ 4 7 (l_ 6),c_ 5 8 132 [.t 7],p_ 6 9 (.bld [.nilS,.nilS] [(0,1),(1,1)] [.t 5,.t 8]),aK 7 (.st 2 (.t 2) (.t 9))]) .ret)) [(1,[.can v0 [2],.upc v1 0 0,.upc v1 1 0,.cell v0 0 0 52 2 Int aG,.frzc v0 0 0,.can v0 [2]])]):XF)
def JV:XF:=w_5 1 2
theorem OC:bN Tryz.prog 123 JV=true:=by kernel_rfl
structure kM where (g:Value) (e:List Ke)
structure iL where (hm:Value) (ml:List Int) (ht:Value) (tl:List Ke)
def eO (p:kM) (r:iL):Prop:=r.ml=[(1:Int),(2:Int)]∧r.tl=p.e∧r.tl.length=p.e.length
noncomputable def rl (p:kM):IE:=([.agg [.sl 0 0 2 (.rest 0),.sy (.imm p.g 18 Ke p.e au)]],(n0 gK),1)
noncomputable def AA (p:kM) (K:KE) (r:iL):Bool:=K (YN r.hm r.ml r.ht r.tl) (.node .leaf (some (gK)) .leaf) 1
noncomputable def El (p:kM) (K:KE):Bool:=ae fun r=>iP (eO p r) (AA p K r) true
def eM (p:kM):Prop:=p.e.length≤1000000
theorem Wi {p:kM} {K:KE} (hK:El p K=true) {r:iL} (h:eO p r):AA p K r=true:=ax h (aq hK r)
theorem Xr:Vf eM El 1 Bg aJ JV rl:=by
 intro p K hpre hK
 refine Eq.trans (b:=(mE (.imm p.g 18 Ke p.e au) (ay dI co bx ⟨p.g,p.e⟩ fun p1 r1=>aM fun l1:List Int=>mP (l1.map aG=[[.sint 1 1,.int 2 (.ofNat 1)],[.sint 1 2,.int 2 (.ofNat 1)]]) (mP ((.sl 2 0 2 (.rest 0):AV)=(.sl 2 0 2 (.rest 0):AV)) (mP (l1.length=l1.length) (ae fun h1:Value=>mP ((.sy (.prow 3 l1.length):AV)=(.sy (.prow 3 l1.length):AV)) (AA p K ⟨h1,l1,r1.h,r1.o⟩))))))) (by kernel_rfl) ?_
 dsimp only[eM]at hpre
 have hlen:=hpre
 refine aH ?_
 refine eg fun r1 hi1=> ?_
 dsimp only[bx]at hi1
 refine aR [1,2] ?_
 refine aH (aH (aH ?_))
 refine ac fun h1=> ?_
 refine aH ?_
 exact Wi hK (by dsimp only[eO]<;>(first|exact⟨rfl,by assumption⟩|(exact⟨by assumption,by assumption⟩)))
noncomputable def EA:NN:=bB Bg (nE OC Xr) [(0,15)] (fun us=>kx (ua us 0 0))
def JW:XF:=w_5 0 1
theorem OD:bN Tryz.prog 123 JW=true:=by kernel_rfl
abbrev iV:=dJ
abbrev va:=iL
def bf (p:iV) (r:va):Prop:=r.ml=[(1:Int),(2:Int)]∧r.tl=p.e∧r.tl.length=p.e.length
noncomputable def cQ (p:iV):IE:=([YN p.h p.l p.g p.e],.leaf,0)
noncomputable def AB (p:iV) (K:KE) (r:va):Bool:=K (YN r.hm r.ml r.ht r.tl) .leaf 0
noncomputable def Em (p:iV) (K:KE):Bool:=ae fun r=>iP (bf p r) (AB p K r) true
def bP (p:iV):Prop:=p.l=[(1:Int),(2:Int)]∧p.e.length≤1000000
theorem cS {w:iV} {k:iV→va→Bool} (h3:∀r,bf w r→k w r=true) (h2:bP w:=by(try dsimp only[bP]);exact⟨by assumption,by omega⟩):ay cQ bP bf w k=true:=aF h2 h3
theorem Wj {p:iV} {K:KE} (hK:Em p K=true) {r:va} (h:bf p r):AB p K r=true:=ax h (aq hK r)
theorem Xs:Vf bP Em 0 EA aJ JW cQ:=by
 intro p K hpre hK
 refine Eq.trans (b:=(aL dX cJ ⟨p.h,p.l⟩ fun p1=>mE (.imm p.g 18 Ke p.e au) (ay dI co bx ⟨p.g,p.e⟩ fun p2 r1=>aM fun l1:List Int=>mP (l1.map aG=[[.sint 1 1,.int 2 (.ofNat 1)],[.sint 1 2,.int 2 (.ofNat 1)]]) (mP ((.sl 1 0 2 (.rest 0):AV)=(.sl 1 0 2 (.rest 0):AV)) (mP (l1.length=l1.length) (ae fun h1:Value=>mP ((.sy (.prow 2 l1.length):AV)=(.sy (.prow 2 l1.length):AV)) (AB p K ⟨h1,l1,r1.h,r1.o⟩))))))) (by kernel_rfl) ?_
 dsimp only[bP]at hpre
 obtain⟨hpre,hlen⟩:=hpre
 have hvl:=hpre
 have hvn:=congrArg List.length hvl
 simp only[apw,apy]at hvn
 refine ek ?_
 refine aH ?_
 refine eg fun r1 hi1=> ?_
 dsimp only[bx]at hi1
 refine aR [1,2] ?_
 refine aH (aH (aH ?_))
 refine ac fun h1=> ?_
 refine aH ?_
 exact Wj hK (by dsimp only[bf]<;>(first|exact⟨rfl,by assumption⟩|(exact⟨by assumption,by assumption⟩)))
noncomputable def nat_clonev3i:NN:=bB EA (nE OD Xs) [(0,15)] (fun us=>ua us 0 0)
noncomputable def Dp3 (l1:List Ke) (com1 t u:Int) (hq:Value) (tq:List Ke) (hcm:Value) (cm:List Int) (hct:Value) (ct:List Ke) (ham:Value) (aw:List Int) (hat:Value) (av:List Ke):T:=(n2 (n2 (n2 (n0 (bm true 13 3)) (hQ ham aw hat av) (n0 (aE 0 1 2))) (aE 0 1 2) (n2 (n0 (aO l1)) (aE 0 1 2) (n0 (aE 0 1 2)))) (jR 1 3 2 3 4 t 5 6 u 7) (n2 (n2 (n0 (aE 0 1 2)) (xw 11 3 2 12 hq tq hcm cm hct ct) (n0 (YO 2 3 4))) (bj 8 3 1 9 l1.length com1 true 10) (n2 (n0 (cP 0 0 1 0 2 0)) (bL 1) .leaf)))
noncomputable def Dn3 (l1:List Ke) (com1 b1 u c0 c1:Int) (hm:Value) (ml:List Int) (h:Value) (e:List Ke):T:=(n2 (n2 (n2 (n0 (nX 11 3 12 2)) (ig 8 2 1 9 l1.length b1 com1 10) (n0 (aE 0 1 2))) (o_F [] hm ml h e) (n2 (n0 (aO l1)) (aE 0 1 2) .leaf)) (nU 2 2 3 4 1 5 3 6 u 7) (n2 (n2 (n0 gK) (bu 0) (n0 gK)) gK (n2 (n0 (Dq c0 c1)) (bL 0) .leaf)))
noncomputable def Dq3 (l1:List Ke) (com1 t u:Int) (hq:Value) (tq:List Ke) (hcm:Value) (cm:List Int) (hct:Value) (ct:List Ke) (ham:Value) (aw:List Int) (hat:Value) (av:List Ke) (hm:Value) (ml:List Int) (ht:Value) (tl:List Ke):T:=(n2 (n2 (n2 (n2 (n0 (aE 0 1 2)) (aE 0 1 2) .leaf) (aE 0 1 2) (n0 (aO l1))) (.blk false 130 2 [[.sy (.imm hm 2 Int ml aG),.sy (.imm ht 18 Ke tl au)]]) (n2 (n0 (bm true 15 3)) (hQ ham aw hat av) (n0 (aE 0 1 2)))) (jR 3 3 4 5 6 t 7 8 u 9) (n2 (n2 (n0 (bL 1)) (bj 10 3 1 11 l1.length com1 true 12) (n0 (cP 0 0 1 0 2 0))) (bm false 3 3) (n2 (n0 (aE 0 1 2)) (xw 13 3 2 14 hq tq hcm cm hct ct) (n0 (YO 2 3 4)))))
def Np:XC:=(.aft (.reg true 15 (.split 5 11 (.split 5 12 (.split 11 12 (.leaf [p_ 0 11 (m_ 0),p_ 1 12 (n_ 11),p_ 2 13 (f_ 0 12),p_ 3 14 (f_ 5 13),r_ 4 15 (l_ 14),p_ 6 17 (m_ 0),p_ 7 18 (n_ 17),p_ 8 19 (f_ 0 18),p_ 9 20 (f_ 0 19),r_ 10 21 (.ld true 3 (.t 20)),c_ 5 16 94 [.t 15],a_ 10 21 (.ld true 3 (.t 20)),e_ 11 5 rp,a_ 10 21 (.ld true 3 (.t 20)),e_ 12 6 rn,a_ 10 21 (.ld true 3 (.t 20)),aK 13 (.st 2 (.t 5) (.t 16)),a_ 10 21 (.ld true 3 (.t 20)),aK 14 (.st 3 (.t 6) (.t 21))]) (.leaf [p_ 0 11 (m_ 0),p_ 1 12 (n_ 11),p_ 2 13 (f_ 0 12),p_ 3 14 (f_ 5 13),r_ 4 15 (l_ 14),p_ 6 17 (m_ 0),p_ 7 18 (n_ 17),p_ 8 19 (f_ 0 18),p_ 9 20 (f_ 0 19),r_ 10 21 (.ld true 3 (.t 20)),c_ 5 16 94 [.t 15],a_ 10 21 (.ld true 3 (.t 20)),e_ 12 6 rn,a_ 10 21 (.ld true 3 (.t 20)),e_ 11 5 rp,a_ 10 21 (.ld true 3 (.t 20)),aK 13 (.st 2 (.t 5) (.t 16)),a_ 10 21 (.ld true 3 (.t 20)),aK 14 (.st 3 (.t 6) (.t 21))])) (.leaf [p_ 0 11 (m_ 0),p_ 1 12 (n_ 11),p_ 2 13 (f_ 0 12),p_ 3 14 (f_ 5 13),r_ 4 15 (l_ 14),p_ 6 17 (m_ 0),p_ 7 18 (n_ 17),p_ 8 19 (f_ 0 18),p_ 9 20 (f_ 0 19),r_ 10 21 (.ld true 3 (.t 20)),e_ 12 6 rn,a_ 4 15 (l_ 14),a_ 10 21 (.ld true 3 (.t 20)),c_ 5 16 94 [.t 15],a_ 10 21 (.ld true 3 (.t 20)),e_ 11 5 rp,a_ 10 21 (.ld true 3 (.t 20)),aK 13 (.st 2 (.t 5) (.t 16)),a_ 10 21 (.ld true 3 (.t 20)),aK 14 (.st 3 (.t 6) (.t 21))])) (.split 5 12 (.leaf [p_ 0 11 (m_ 0),p_ 1 12 (n_ 11),p_ 2 13 (f_ 0 12),p_ 3 14 (f_ 5 13),r_ 4 15 (l_ 14),p_ 6 17 (m_ 0),p_ 7 18 (n_ 17),p_ 8 19 (f_ 0 18),p_ 9 20 (f_ 0 19),r_ 10 21 (.ld true 3 (.t 20)),e_ 11 5 rp,a_ 4 15 (l_ 14),a_ 10 21 (.ld true 3 (.t 20)),c_ 5 16 94 [.t 15],a_ 10 21 (.ld true 3 (.t 20)),e_ 12 6 rn,a_ 10 21 (.ld true 3 (.t 20)),aK 13 (.st 2 (.t 5) (.t 16)),a_ 10 21 (.ld true 3 (.t 20)),aK 14 (.st 3 (.t 6) (.t 21))]) (.split 11 12 (.leaf [p_ 0 11 (m_ 0),p_ 1 12 (n_ 11),p_ 2 13 (f_ 0 12),p_ 3 14 (f_ 5 13),r_ 4 15 (l_ 14),p_ 6 17 (m_ 0),p_ 7 18 (n_ 17),p_ 8 19 (f_ 0 18),p_ 9 20 (f_ 0 19),r_ 10 21 (.ld true 3 (.t 20)),e_ 11 5 rp,a_ 4 15 (l_ 14),a_ 10 21 (.ld true 3 (.t 20)),e_ 12 6 rn,a_ 4 15 (l_ 14),a_ 10 21 (.ld true 3 (.t 20)),c_ 5 16 94 [.t 15],a_ 10 21 (.ld true 3 (.t 20)),aK 13 (.st 2 (.t 5) (.t 16)),a_ 10 21 (.ld true 3 (.t 20)),aK 14 (.st 3 (.t 6) (.t 21))]) (.leaf [p_ 0 11 (m_ 0),p_ 1 12 (n_ 11),p_ 2 13 (f_ 0 12),p_ 3 14 (f_ 5 13),r_ 4 15 (l_ 14),p_ 6 17 (m_ 0),p_ 7 18 (n_ 17),p_ 8 19 (f_ 0 18),p_ 9 20 (f_ 0 19),r_ 10 21 (.ld true 3 (.t 20)),e_ 12 6 rn,a_ 4 15 (l_ 14),a_ 10 21 (.ld true 3 (.t 20)),e_ 11 5 rp,a_ 4 15 (l_ 14),a_ 10 21 (.ld true 3 (.t 20)),c_ 5 16 94 [.t 15],a_ 10 21 (.ld true 3 (.t 20)),aK 13 (.st 2 (.t 5) (.t 16)),a_ 10 21 (.ld true 3 (.t 20)),aK 14 (.st 3 (.t 6) (.t 21))]))))) [(0,[.can 1 [0,1,5,6]])])
def Nb:XF:=.mk 70 (.one 4) (.seq (g_ 1 [p_ 0 4 (.mv N_)]) (.seq (.pre [.can 1 [0,1]] (.spc 0 Np)) (.seq (h_ 12 [p_ 0 22 (m_ 0),p_ 1 23 (n_ 22),p_ 2 24 (f_ 7 23),r_ 3 25 (l_ 24),p_ 4 26 (f_ 1 6),r_ 5 27 (l_ 26),p_ 6 28 (.bin 0 0 (.t 27) (v_ 3 1)),p_ 7 29 (f_ 0 5),r_ 8 30 (l_ 29),p_ 9 31 (.bld [j_ 1 0,j_ 3 0,.nilS] [(0,1),(1,1),(2,1)] [.t 25,.t 28,.t 30]),e_ 10 7 rn,a_ 3 25 (l_ 24),a_ 5 27 (l_ 26),a_ 8 30 (l_ 29),aK 11 (.st 3 (.t 7) (.t 31))]) (.seq (.aft (h_ 17 [p_ 0 32 (m_ 0),p_ 1 33 (n_ 32),p_ 2 34 (f_ 0 33),p_ 3 35 (f_ 3 34),r_ 4 36 (l_ 35),p_ 6 38 (m_ 0),p_ 7 39 (n_ 38),p_ 8 40 (f_ 0 39),p_ 9 41 (f_ 3 40),r_ 10 42 (l_ 41),p_ 13 45 (f_ 1 5),r_ 14 46 (l_ 45),c_ 5 37 34 [.t 36],a_ 10 42 (l_ 41),a_ 14 46 (l_ 45),c_ 11 43 111 [.t 42],a_ 14 46 (l_ 45),r_ 12 44 (.sls 18 (.t 37) none (some (.t 43)) none),e_ 15 47 (.app 68 18 104 (.t 44) (.t 46)),p_ 16 8 (m_ 47)]) [(0,[.frz 8])]) (.seq (g_ 5 [r_ 0 48 (.ld true 3 (.t 7)),p_ 1 49 (m_ 8),p_ 2 50 (.bld [j_ 1 0,j_ 1 0,j_ 1 0,j_ 3 0,j_ 3 0,j_ 3 0,j_ 3 0,j_ 4 0,j_ 4 0,j_ 1 0,j_ 2 0,j_ 3 0,j_ 1 0,j_ 1 0,j_ 1 0,j_ 1 0,j_ 1 0,j_ 1 0,j_ 1 0,.nilS,j_ 1 0,.str [],j_ 1 0,j_ 3 0,.nilS,j_ 1 0,j_ 2 0,.bool false,.nilS,.nilS,.nilS] [(0,1),(22,3),(29,1)] [v_ 1 10,.t 48,.t 49]),e_ 3 9 Do,aK 4 (.st 31 (.t 9) (.t 50))]) (.seq (g_ 5 [p_ 0 51 (f_ 2 7),r_ 1 52 (l_ 51),p_ 2 53 (.mkf 164 [.t 6]),c_ 3 54 63 [.t 52,.t 53],p_ 4 10 (m_ 54)]) (.seq (g_ 5 [p_ 0 55 (m_ 0),p_ 1 56 (m_ 1),r_ 2 57 (.ld true 3 (.t 7)),p_ 3 58 (m_ 8),c_ 4 59 46 [.t 55,.t 56,.t 57,.t 58]]) (.seq (h_ 11 [p_ 0 60 (m_ 0),r_ 1 61 (.ld true 31 (.t 9)),p_ 2 62 (f_ 2 6),r_ 3 63 (l_ 62),p_ 5 65 (m_ 0),r_ 6 66 (.ld true 31 (.t 9)),p_ 7 67 (m_ 10),c_ 4 64 69 [.t 60,.t 61,.t 63],a_ 6 66 (.ld true 31 (.t 9)),c_ 8 68 69 [.t 65,.t 66,.t 67],e_ 9 69 (.app 118 33 224 (.t 64) (.t 68)),p_ 10 4 (m_ 69)]) .ret))))))))
theorem TO:bN Tryz.prog 135 Nb=true:=by kernel_rfl
structure oH where (l1:List Ke) (com1 t u:Int) (hq:Value) (tq:List Ke) (hcm:Value) (cm:List Int) (hct:Value) (ct:List Ke) (ham:Value) (aw:List Int) (hat:Value) (av:List Ke) (now:Int)
abbrev acI:=iL
def DR (p:oH) (r:acI):Prop:=r.ml=[(1:Int),(2:Int)]∧r.tl=p.l1∧r.tl.length=p.l1.length
noncomputable def Ai (p:oH):IL:=((.cons 1 (.sy (.int 0 p.now)) (.cons 0 (.ptr 0 0) .nil)),(Dp3 p.l1 p.com1 p.t p.u p.hq p.tq p.hcm p.cm p.hct p.ct p.ham p.aw p.hat p.av),14)
noncomputable def Bk (p:oH) (K:KC) (r:acI):Bool:=K 0 (.cons 6 (.ptr 2 0) (.cons 5 (.ptr 1 0) (.cons 1 (.sy (.int 0 p.now)) (.cons 0 (.ptr 0 0) .nil)))) (Dq3 p.l1 p.com1 p.t p.u p.hq p.tq p.hcm p.cm p.hct p.ct p.ham p.aw p.hat p.av r.hm r.ml r.ht r.tl) 16
noncomputable def Ol (p:oH) (K:KC):Bool:=ae fun r=>iP (DR p r) (Bk p K r) true
def AN (p:oH):Prop:=p.l1.length≤400∧p.ct=p.l1∧p.cm=[(1:Int),(2:Int)]
theorem GN {p:oH} {K:KC} (hK:Ol p K=true) {r:acI} (h:DR p r:=by dsimp only[DR]<;>(exact⟨by assumption,by rw[←hct];assumption⟩)):Bk p K r=true:=ax h (aq hK r)
noncomputable def ane (p:oH) (K:KC):Bool:=aa (aN (AN p)) (Ol p K)
noncomputable def uA:fx:=fun j S M nx K=>(Bool.rec (false) (aM fun p:oH=>aa (aN ((S,M,nx)=Ai p)) (ane p K)) (Nat.beq j 0))
theorem akJ (p:oH) (K:KC) (hpre:AN p) (hK:Ol p K=true):(dj (gN nat_clonev3i.1) uA 600 Np (Ai p).1 (Ai p).2.1 (Ai p).2.2 K)=true:=by
 refine Eq.trans (b:=(aa (aa (cu (ay cQ bP bf ⟨p.hcm,p.cm,p.hct,p.ct⟩ fun p1 r1=>Bk p K ⟨r1.hm,r1.ml,r1.ht,r1.tl⟩)) (ay cQ bP bf ⟨p.hcm,p.cm,p.hct,p.ct⟩ fun p3 r3=>Bk p K ⟨r3.hm,r3.ml,r3.ht,r3.tl⟩)) (aa (ay cQ bP bf ⟨p.hcm,p.cm,p.hct,p.ct⟩ fun p4 r4=>Bk p K ⟨r4.hm,r4.ml,r4.ht,r4.tl⟩) (cu (ay cQ bP bf ⟨p.hcm,p.cm,p.hct,p.ct⟩ fun p5 r5=>Bk p K ⟨r5.hm,r5.ml,r5.ht,r5.tl⟩))))) (by kernel_rfl) ?_
 dsimp only[AN]at hpre
 obtain⟨hlen,hct,hpre⟩:=hpre
 have hcl:=congrArg List.length hct
 refine bI ?_ ?_
 refine bI ?_ ?_
 refine bk ?_
 refine cS fun r1 hi1=> ?_
 dsimp only[bf]at hi1
 obtain⟨hi1,hs1⟩:=hi1
 exact GN hK
 refine cS fun r3 hi2=> ?_
 dsimp only[bf]at hi2
 obtain⟨hi2,hs2⟩:=hi2
 exact GN hK
 refine bI ?_ ?_
 refine cS fun r4 hi3=> ?_
 dsimp only[bf]at hi3
 obtain⟨hi3,hs3⟩:=hi3
 exact GN hK
 refine bk ?_
 refine cS fun r5 hi4=> ?_
 dsimp only[bf]at hi4
 obtain⟨hi4,hs4⟩:=hi4
 exact GN hK
theorem anW:eE Tryz.prog 70 1 uA false 0 Np:=by
 refine Gt (lf:=600) bK (bR nat_clonev3i.2) (by rfl) (fun b j x h=>by cases h) (fun S M nx K h=> ?_)
 obtain⟨p,h⟩:=cd h
 obtain⟨e,h9⟩:=ai h
 clear h
 have e1:S=(Ai p).1:=congrArg Prod.fst e
 have e2:M=(Ai p).2.1:=congrArg (fun x=>x.2.1) e
 have e3:nx=(Ai p).2.2:=congrArg (fun x=>x.2.2) e
 subst e1;subst e2;subst e3
 exact akJ p K (ai h9).1 (ai h9).2
abbrev pO:=oH
structure Aa where (o:List Ke) (z:Int) (hm:Value) (ml:List Int) (h:Value) (e:List Ke)
def ix (p:pO) (r:Aa):Prop:=r.o=p.l1∧r.z=(p.l1.length:Int)∧r.ml=[(1:Int),(2:Int)]∧r.e=p.l1
noncomputable def Gd (p:pO):IE:=([.ptr 0 0,.sy (.int 0 p.now)],(Dp3 p.l1 p.com1 p.t p.u p.hq p.tq p.hcm p.cm p.hct p.ct p.ham p.aw p.hat p.av),14)
noncomputable def MT (p:pO) (K:KE) (r:Aa):Bool:=K (.sl 1 0 2 (.rest 0)) (Dn3 r.o r.z r.z (p.now+2) r.z r.z r.hm r.ml r.h r.e) 13
noncomputable def Iu (p:pO) (K:KE):Bool:=ae fun r=>iP (ix p r) (MT p K r) true
def lj (p:pO):Prop:=p.l1.length≤400∧p.ct=p.l1∧p.cm=[(1:Int),(2:Int)]∧0≤p.now∧p.now≤1000000
theorem Ki {p:pO} {K:KE} (hK:Iu p K=true) {r:Aa} (h:ix p r):MT p K r=true:=ax h (aq hK r)
theorem aaL:Vf lj Iu 1 nat_clonev3i uA Nb Gd:=by
 intro p K hpre hK
 refine Eq.trans (b:=(ay Ai AN DR ⟨p.l1,p.com1,p.t,p.u,p.hq,p.tq,p.hcm,p.cm,p.hct,p.ct,p.ham,p.aw,p.hat,p.av,p.now⟩ fun p1 r1=>mE (.imm r1.hm 2 Int r1.ml aG) (ay bS aW aP ⟨p1.l1⟩ fun p2 r2=>mE (.imm r1.ht 18 Ke r1.tl au) (mE (.imm r1.ht 18 Ke r1.tl au) (mP ((0:Int)=0∧0≤(0:Int)∧(0:Int)≤(r2.o.length:Int)∧r2.o.length≤r2.o.length) (mP (0≤r2.o.length) (iP (r1.tl=[]) (mP (0=r2.o.length) (mP (0=r2.o.length) (ae fun h2:Value=>aL dX cJ ⟨r1.hm,r1.ml⟩ fun p9=>aL vg fO ⟨r1.hm,r1.ml⟩ fun p10=>aL dX cJ ⟨r1.hm,r1.ml⟩ fun p11=>aa (qL [qY ((.imm r1.hm 2 Int r1.ml aG))]) (ay yk gR gh ⟨r1.hm,r1.ml,h2,r2.o⟩ fun p12 r4=>aL dX cJ ⟨r1.hm,r1.ml⟩ fun p13=>aL vi fQ ⟨r1.hm,r1.ml⟩ fun p14=>mP (aI 0 (p1.now+2)) (aa (qL [qY ((.imm r1.hm 2 Int r1.ml aG)),qY ((.imm h2 18 Ke r2.o au))]) (K (.sl 1 0 2 (.rest 0)) (Dn3 r4.o (p12.e.length:Int) (p12.e.length:Int) (p1.now+2) (p12.e.length:Int) (p12.e.length:Int) r1.hm r1.ml h2 r2.o) 13)))))) (aM fun m1:List Ke=>mP (bg (m1.map au) (r1.tl.map au)) (mP (0+m1.length≤r2.o.length∧0+m1.length≤r2.o.length) (mP ((0+m1.length)=r2.o.length) (mP ((0+m1.length)=(r2.o.take 0++m1++r2.o.drop (0+m1.length)).length) (ae fun h1:Value=>aL dX cJ ⟨r1.hm,r1.ml⟩ fun p3=>aL vg fO ⟨r1.hm,r1.ml⟩ fun p4=>aL dX cJ ⟨r1.hm,r1.ml⟩ fun p5=>aa (qL [qY ((.imm r1.hm 2 Int r1.ml aG))]) (ay yk gR gh ⟨r1.hm,r1.ml,h1,r2.o.take 0++m1++r2.o.drop (0+m1.length)⟩ fun p6 r3=>aL dX cJ ⟨r1.hm,r1.ml⟩ fun p7=>aL vi fQ ⟨r1.hm,r1.ml⟩ fun p8=>mP (aI 0 (p1.now+2)) (aa (qL [qY ((.imm r1.hm 2 Int r1.ml aG)),qY ((.imm h1 18 Ke (r2.o.take 0++m1++r2.o.drop (0+m1.length)) au))]) (K (.sl 1 0 2 (.rest 0)) (Dn3 r3.o (p6.e.length:Int) (p6.e.length:Int) (p1.now+2) (p6.e.length:Int) (p6.e.length:Int) r1.hm r1.ml h1 (r2.o.take 0++m1++r2.o.drop (0+m1.length))) 13))))))))))))))) (by kernel_rfl) ?_
 dsimp only[lj]at hpre
 obtain⟨hlen,hct,hpre,hn0,hn1⟩:=hpre
 have hcl:=congrArg List.length hct
 refine aF (by(try dsimp only[AN]);exact⟨hlen,hct,hpre⟩) fun r1 hi1=> ?_
 dsimp only[DR]at hi1 ⊢
 obtain⟨hi1,hs1⟩:=hi1
 refine aH ?_
 refine ei fun r2 hi2=> ?_
 dsimp only[aP]at hi2
 refine aH (aH (cz (aX ?_)))
 apply iI<;>intro hc3
 have hc3l:(r1.tl).length=0:=(by rw[hc3];rfl)
 refine mI (by first|rfl|omega) (mI (by first|rfl|omega|(simp;omega)) ?_)
 refine ac fun h2=> ?_
 refine ek ?_
 refine aV (by(try dsimp only[fO]);assumption) ?_
 refine ek ?_
 refine cq ?_
 refine aF (by(try dsimp only[gR]);exact⟨by assumption,by first|omega|(simp only[apv,apL,apW];omega)⟩) fun r4 hi4=> ?_
 dsimp only[gh]at hi4 ⊢
 refine ek ?_
 refine aV (by(try dsimp only[fQ]);assumption) ?_
 refine dc ?_
 refine cq ?_
 exact Ki (r:=⟨r4.o,(r2.o.length:Int),r1.hm,r1.ml,h2,r2.o⟩) hK (by dsimp only[ix]<;>(have hE:r2.o=p.l1:=(by first|exact hi2.1|(rw[hs1.1,hi2.1];simp));exact⟨hi4.1.trans hE,by rw[hE],hi1,hE⟩))
 have hc3l:0<(r1.tl).length:=List.length_pos_iff.2 hc3
 refine aR r1.tl ?_
 refine mI (show bg (r1.tl.map au) (r1.tl.map au) from cF _) (mI (by(try dsimp only);omega) (mI (by(try dsimp only);first|rfl|omega) (mI (by(try dsimp only);first|rfl|omega|(simp;omega)) ?_)))
 refine ac fun h1=> ?_
 refine ek ?_
 refine aV (by(try dsimp only[fO]);assumption) ?_
 refine ek ?_
 refine cq ?_
 refine aF (by(try dsimp only[gR]);exact⟨by assumption,by first|omega|(simp only[apv,apL,apW];omega)⟩) fun r3 hi5=> ?_
 dsimp only[gh]at hi5 ⊢
 refine ek ?_
 refine aV (by(try dsimp only[fQ]);assumption) ?_
 refine dc ?_
 refine cq ?_
 exact Ki (r:=⟨r3.o,((r2.o.take 0++r1.tl++r2.o.drop (0+r1.tl.length)).length:Int),r1.hm,r1.ml,h1,r2.o.take 0++r1.tl++r2.o.drop (0+r1.tl.length)⟩) hK (by dsimp only[ix]<;>(have hE:(r2.o.take 0++r1.tl++r2.o.drop (0+r1.tl.length))=p.l1:=(by first|exact hi2.1|(rw[hs1.1,hi2.1];simp));exact⟨hi5.1.trans hE,by rw[hE],hi1,hE⟩))
noncomputable def Jj:NN:=ck nat_clonev3i (cB (f:=135) (k:=1) (lp:=uA) (lf:=600) bK (bR nat_clonev3i.2) TO (by rfl) (fun b j x h=>(dh anW (fun h=>(by cases h)) h)) fun p K h=>aaL p K (ai h).1 (ai h).2) [(0,4),(1,20)]
noncomputable def aoS (l1:List Ke) (com1:Int):T:=(n2 (n2 (n2 (n0 (aE 0 1 2)) (bu 0) .leaf) (aE 0 1 2) (n2 (n0 (cP 0 0 1 0 2 0)) (bL 1) .leaf)) (zq 1 3 2 3 1 4 5 6) (n2 (n2 (n0 (aO l1)) (aE 0 1 2) .leaf) (bj 7 3 1 8 l1.length com1 false 9) (n2 (n0 (aE 0 1 2)) (bm true 10 3) .leaf)))
noncomputable def aeA (l1:List Ke) (com1 t u:Int) (hq:Value) (tq:List Ke):T:=(n2 (n2 (n2 (n0 (bm true 13 3)) (bu 257) (n0 (aE 0 1 2))) (aE 0 1 2) (n2 (n0 (aO l1)) (aE 0 1 2) (n0 (aE 0 1 2)))) (jR 1 3 2 3 4 t 5 6 u 7) (n2 (n2 (n0 (aE 0 1 2)) (Eo 11 3 12 hq tq) (n0 (rr 0 1))) (bj 8 3 1 9 l1.length com1 true 10) (n2 (n0 (cP 0 0 1 0 2 0)) (bL 1) .leaf)))
noncomputable def Fm (l1:List Ke) (com1 t u:Int) (hq:Value) (tq:List Ke) (k0:Nat):T:=(n2 (n2 (n2 (n0 (bL 1)) (bj 9 3 1 10 k0 com1 true 11) (n0 (cP 0 0 1 0 2 0))) (.blk true 118 33 [[.int 1 (.ofNat 0),.int 2 (.ofNat 1),.int 1 (.ofNat 5),.int 1 (.ofNat 0),.int 1 (.ofNat 0),.int 3 (.ofNat 1),.int 3 (.ofNat 0),.int 3 (.ofNat 0),.int 3 (.ofNat 0),.int 4 (.ofNat 257),.int 4 (.ofNat 0),.int 1 (.ofNat 0),.int 2 (.ofNat 0),.int 3 (.ofNat 0),.int 1 (.ofNat 0),.int 1 (.ofNat 0),.int 1 (.ofNat 0),.int 1 (.ofNat 0),.int 1 (.ofNat 0),.int 1 (.ofNat 0),.int 1 (.ofNat 0),.nilS,.int 1 (.ofNat 0),.str [],.int 1 (.ofNat 0),.int 3 (.ofNat 0),.nilS,.int 1 (.ofNat 0),.int 2 (.ofNat 0),.bool false,.nilS,.nilS,.nilS],[.int 1 (.ofNat 2),.int 2 (.ofNat 1),.int 1 (.ofNat 5),.int 1 (.ofNat 0),.int 1 (.ofNat 0),.int 3 (.ofNat 1),.int 3 (.ofNat 0),.int 3 (.ofNat 0),.int 3 (.ofNat 0),.int 4 (.ofNat 257),.int 4 (.ofNat 0),.int 1 (.ofNat 0),.int 2 (.ofNat 0),.int 3 (.ofNat 0),.int 1 (.ofNat 0),.int 1 (.ofNat 0),.int 1 (.ofNat 0),.int 1 (.ofNat 0),.int 1 (.ofNat 0),.int 1 (.ofNat 0),.int 1 (.ofNat 0),.nilS,.int 1 (.ofNat 0),.str [],.int 1 (.ofNat 0),.int 3 (.ofNat 0),.nilS,.int 1 (.ofNat 0),.int 2 (.ofNat 0),.bool false,.nilS,.nilS,.nilS]]) (n2 (n0 (aE 0 1 2)) (Eo 12 3 13 hq tq) (n0 (rr 0 1)))) (jR 2 3 3 4 5 t 6 7 u 8) (n2 (n2 (n0 (bm true 14 3)) (bu 257) (n0 (aE 0 1 2))) (aE 0 1 2) (n2 (n0 (aO l1)) (aE 0 1 2) (n0 (aE 0 1 2)))))
def VQ:XF:=.mk 95 (.one 4) (.aft (.seq (g_ 1 [p_ 0 4 (.mv N_)]) (.seq (g_ 3 [p_ 0 7 (.bld [j_ 1 0,j_ 1 0,j_ 1 0,j_ 3 0,j_ 3 0,j_ 3 0,j_ 3 0,j_ 4 0,j_ 4 0,j_ 1 0,j_ 2 0,j_ 3 0,j_ 1 0,j_ 1 0,j_ 1 0,j_ 1 0,j_ 1 0,j_ 1 0,j_ 1 0,.nilS,j_ 1 0,.str [],j_ 1 0,j_ 3 0,.nilS,j_ 1 0,j_ 2 0,.bool false,.nilS,.nilS,.nilS] [(0,1)] [v_ 1 11]),e_ 1 5 Do,aK 2 (.st 31 (.t 5) (.t 7))]) (.seq (.seq (g_ 3 [p_ 0 8 (m_ 0),c_ 1 9 32 [.t 8],p_ 2 10 (.un 0 (.t 9))]) (.cond (.t 10) (h_ 12 [p_ 0 11 (m_ 0),p_ 1 12 (n_ 11),p_ 2 13 (f_ 7 12),r_ 3 14 (l_ 13),p_ 4 15 (m_ 0),p_ 5 16 (n_ 15),p_ 6 17 (f_ 8 16),r_ 7 18 (.ld true 2 (.t 17)),p_ 8 19 (f_ 1 5),aK 9 (.st 1 (.t 19) (.t 14)),a_ 7 18 (.ld true 2 (.t 17)),p_ 10 20 (f_ 25 5),aK 11 (.st 2 (.t 20) (.t 18))]) .skip)) (.seq (.seq (g_ 3 [p_ 0 21 (m_ 0),c_ 1 22 19 [.t 21],p_ 2 23 (.un 0 (.t 22))]) (.cond (.t 23) (.seq (.seq (g_ 9 [p_ 0 24 (m_ 0),c_ 1 25 32 [.t 24],p_ 2 26 (m_ 25),ah 3 27 26 false (m_ 0),ah 4 28 26 false (n_ 27),ah 5 29 26 false (f_ 14 28),aT 6 30 26 false (l_ 29),ah 7 31 26 false (.un 0 (.t 30)),p_ 8 32 (.pick (.t 26) T_ (.t 31))]) (.cond (.t 32) (.seq (g_ 1 [p_ 0 4 (.mv N_)]) .ret) .skip)) (.seq (h_ 8 [p_ 0 33 (m_ 0),r_ 1 34 (.ld true 31 (.t 5)),p_ 2 35 (m_ 0),p_ 3 36 (n_ 35),p_ 4 37 (f_ 10 36),r_ 5 38 (l_ 37),c_ 6 39 69 [.t 33,.t 34,.t 38],p_ 7 4 (m_ 39)]) .ret)) .skip)) (.seq (g_ 1 [p_ 0 6 (.mv N_)]) (.seq (.seq (h_ 9 [p_ 0 40 (m_ 0),p_ 1 41 (n_ 40),p_ 2 42 (f_ 13 41),r_ 3 43 (l_ 42),p_ 4 44 (m_ 0),p_ 5 45 (n_ 44),p_ 6 46 (f_ 8 45),r_ 7 47 (.ld true 2 (.t 46)),c_ 8 48 57 [.t 43,.t 47]]) (.cond (.t 48) (.seq (g_ 2 [p_ 0 49 (f_ 0 5),aK 1 (.st 1 (.t 49) (v_ 1 12))]) (h_ 10 [p_ 0 50 (m_ 0),r_ 1 51 (.ld true 31 (.t 5)),p_ 2 52 (m_ 0),p_ 3 53 (n_ 52),p_ 4 54 (f_ 0 53),p_ 5 55 (f_ 0 54),p_ 6 56 (f_ 2 55),r_ 7 57 (l_ 56),c_ 8 58 69 [.t 50,.t 51,.t 57],p_ 9 6 (m_ 58)])) .skip)) (.seq (.seq (h_ 11 [p_ 0 59 (m_ 0),p_ 1 60 (n_ 59),p_ 2 61 (f_ 0 60),p_ 3 62 (f_ 0 61),r_ 4 63 (.ld true 3 (.t 62)),p_ 6 65 (m_ 0),p_ 7 66 (n_ 65),p_ 8 67 (f_ 8 66),r_ 9 68 (.ld true 2 (.t 67)),c_ 5 64 41 [.t 63],a_ 9 68 (.ld true 2 (.t 67)),p_ 10 69 (.eqs false 2 (.st [(0,1,false,.int),(1,1,false,.int)]) (.t 64) (.t 68))]) (.cond (.t 69) (g_ 5 [p_ 0 70 (m_ 6),p_ 1 71 (m_ 0),c_ 2 72 70 [.t 71],e_ 3 73 (.app 118 33 224 (.t 70) (.t 72)),p_ 4 6 (m_ 73)]) .skip)) (.seq (.block 2 (.seq (g_ 7 [p_ 0 75 (m_ 0),p_ 1 76 (n_ 75),p_ 2 77 (f_ 0 76),p_ 3 78 (f_ 5 77),r_ 4 79 (l_ 78),p_ 5 80 (.isn true 1 (.t 79)),p_ 6 74 (m_ 80)]) (.cond (.t 74) (g_ 5 [p_ 0 81 (m_ 6),p_ 1 82 (m_ 0),c_ 2 83 71 [.t 82],e_ 3 84 (.app 118 33 224 (.t 81) (.t 83)),p_ 4 6 (m_ 84)]) (.seq (g_ 4 [p_ 0 86 (m_ 0),p_ 1 87 (m_ 1),c_ 2 88 72 [.t 86,.t 87],p_ 3 85 (m_ 88)]) (.cond (.t 85) (g_ 6 [p_ 0 89 (m_ 6),p_ 1 90 (m_ 0),p_ 2 91 (m_ 1),c_ 3 92 73 [.t 90,.t 91],e_ 4 93 (.app 118 33 224 (.t 89) (.t 92)),p_ 5 6 (m_ 93)]) .skip))))) (.seq (g_ 2 [p_ 0 94 (m_ 6),p_ 1 4 (m_ 94)]) .ret))))))))) [(0,[.can 1 [4],.cell 5 0 8 68 18 Ke au,.frzc 5 0 8,.can 1 [4]]),(1,[.can 1 [4],.cell 5 0 8 68 18 Ke au,.frzc 5 0 8,.can 1 [4]])])
theorem Se:bN Tryz.prog 50 VQ=true:=by kernel_rfl
structure vk where (l1:List Ke) (com1 now:Int)
structure Uf where (hq:Value) (tq:List Ke)
def DN (p:vk) (r:Uf):Prop:=r.tq=p.l1
noncomputable def aii (p:vk):IE:=([.ptr 0 0,.sy (.int 0 p.now)],(aoS p.l1 p.com1),11)
noncomputable def adG (p:vk) (K:KE) (r:Uf):Bool:=K (.sl 1 0 2 (.rest 0)) (Fm p.l1 p.com1 p.now (p.now+10) r.hq r.tq p.l1.length) 15
noncomputable def YK (p:vk) (K:KE):Bool:=ae fun r=>iP (DN p r) (adG p K r) true
def Gy (p:vk):Prop:=0≤p.now∧p.now≤1000000∧2≤p.now∧p.l1.length≤400
theorem GL {p:vk} {K:KE} (hK:YK p K=true) {r:Uf} (h:DN p r:=by dsimp only[DN]<;>(first|(simp_all;done)|(refine(apS ?_).symm;simp_all;omega))):adG p K r=true:=ax h (aq hK r)
theorem akC:Vf Gy YK 1 Jj aJ VQ aii:=by
 intro p K hpre hK
 refine Eq.trans (b:=(iP ((2:Int)≤p.now) (cu (mP (aI 0 (p.now+10)) (mP (p.l1.length=p.l1.length∧0≤(0:Int)∧(0:Int)≤(p.l1.length:Int)∧(p.l1.length:Int)≤(p.l1.length:Int)) (ay cN bJ aZ ⟨p.l1,(0:Nat),p.l1.length - 0⟩ fun p1 r1=>iP (0<(r1.o.length:Int)) (ay dI co bx ⟨r1.h,r1.o⟩ fun p2 r2=>aa (cu (cu (mP ((.sy (.imm r2.h 18 Ke r2.o au):AV)=(.sy (.imm r2.h 18 Ke r2.o au):AV)) (K (.sl 1 0 2 (.rest 0)) (Fm p1.l p.com1 p.now (p.now+10) r2.h r2.o p.l1.length) 15)))) (cu (mP ((.sy (.imm r2.h 18 Ke r2.o au):AV)=(.sy (.imm r2.h 18 Ke r2.o au):AV)) (K (.sl 1 0 2 (.rest 0)) (Fm p1.l p.com1 p.now (p.now+10) r2.h r2.o p.l1.length) 15)))) (aa (cu (cu (mP ((.nilS:AV)=(.nilS:AV)) (mP (0=([]:List Ke).length) (ae fun h1:Value=>mP ((.sy (.prow 15 0):AV)=(.sy (.prow 15 0):AV)) (K (.sl 1 0 2 (.rest 0)) (Fm p1.l p.com1 p.now (p.now+10) h1 ([]:List Ke) p.l1.length) 15)))))) (cu (mP ((.nilS:AV)=(.nilS:AV)) (mP (0=([]:List Ke).length) (ae fun h5:Value=>mP ((.sy (.prow 15 0):AV)=(.sy (.prow 15 0):AV)) (K (.sl 1 0 2 (.rest 0)) (Fm p1.l p.com1 p.now (p.now+10) h5 ([]:List Ke) p.l1.length) 15)))))))))) (false))) (by kernel_rfl) ?_
 dsimp only[Gy]at hpre
 obtain⟨n0,n1,hx⟩:=hpre
 obtain⟨hx1,hx2⟩:=hx
 refine iY fun hc1=> ?_
 refine bk ?_
 refine be (cz ?_)
 refine cV fun r1 hi2=> ?_
 dsimp only[aZ]at hi2 ⊢
 apply iI<;>intro hc3
 refine eg fun r2 hi4=> ?_
 dsimp only[bx]at hi4
 refine bI ?_ ?_
 refine bk ?_
 refine bk ?_
 refine aH ?_
 exact GL (r:=⟨r2.h,r2.o⟩) hK
 refine bk ?_
 refine aH ?_
 exact GL (r:=⟨r2.h,r2.o⟩) hK
 refine bI ?_ ?_
 refine bk ?_
 refine bk ?_
 refine aH (aH ?_)
 refine ac fun h1=> ?_
 refine aH ?_
 exact GL (r:=⟨h1,([]:List Ke)⟩) hK
 refine bk ?_
 refine aH (aH ?_)
 refine ac fun h5=> ?_
 refine aH ?_
 exact GL (r:=⟨h5,([]:List Ke)⟩) hK
noncomputable def nc_yt3:EE 50 1:=bA (fun us M=>aA (aA (Nat.beq (zC M 0 8) 1) (Nat.beq (zC M 0 1) 1)) (cT M 0 11)) (nE Se akC) eS
noncomputable def YT:NN:=ck Jj nc_yt3.2 [(0,4),(1,20)]
noncomputable def CO (l2:List Ke) (com2:Int):T:=(n2 (n2 (n2 (n0 (aE 0 1 2)) (bu 0) .leaf) (aE 0 1 2) (n2 (n0 (cP 0 0 1 0 2 0)) (bL 1) .leaf)) (zq 1 3 2 3 2 4 5 6) (n2 (n2 (n0 (aO l2)) (aE 0 1 2) .leaf) (bj 7 3 2 8 l2.length com2 false 9) (n2 (n0 (aE 0 1 2)) (bm true 10 3) .leaf)))
noncomputable def acA (l2:List Ke) (com2 t2:Int):T:=(n2 (n2 (n2 (n0 (aE 0 1 2)) (bu 257) .leaf) (aE 0 1 2) (n2 (n0 (cP 0 0 1 0 2 0)) (bL 1) .leaf)) (gJ 1 3 2 3 t2 2 4 5 6) (n2 (n2 (n0 (aO l2)) (aE 0 1 2) .leaf) (bj 7 3 2 8 l2.length com2 true 9) (n2 (n0 (aE 0 1 2)) (bm true 10 3) .leaf)))
noncomputable def WK (l2:List Ke) (com2 t2:Int) (h:Value) (e:List Ke) (k0:Nat):T:=(n2 (n2 (n2 (n0 (bm true 11 3)) (bj 8 3 2 9 k0 com2 true 10) (n0 (aE 0 1 2))) (o_K [] h e) (n2 (n0 (aO l2)) (aE 0 1 2) .leaf)) (gJ 2 3 3 4 t2 2 5 6 7) (n2 (n2 (n0 (aE 0 1 2)) (bu 257) .leaf) (aE 0 1 2) (n2 (n0 (cP 0 0 1 0 2 0)) (bL 1) .leaf)))
def bZ:XF:=.mk 105 (.one 8) (.seq (g_ 3 [e_ 0 6 (.box 52 (.t 2)),e_ 1 7 (.box 74 (.t 3)),p_ 2 8 (.mv N_)]) (.seq (.seq (g_ 9 [p_ 0 10 (m_ 0),c_ 1 11 32 [.t 10],p_ 2 12 (m_ 11),ah 3 13 12 false (m_ 0),aT 4 14 12 false (.ld true 2 (.t 6)),aT 5 15 12 false (.ld true 31 (.t 7)),cG 6 16 12 false 74 [.t 13,.t 14,.t 15],ah 7 17 12 false (.un 0 (.t 16)),p_ 8 18 (.pick (.t 12) T_ (.t 17))]) (.cond (.t 18) (.seq (g_ 1 [p_ 0 8 (.mv N_)]) .ret) .skip)) (.seq (h_ 10 [p_ 0 19 (f_ 3 7),r_ 1 20 (l_ 19),p_ 2 21 (m_ 0),p_ 3 22 (n_ 21),p_ 4 23 (f_ 0 22),p_ 5 24 (f_ 0 23),p_ 6 25 (f_ 1 24),r_ 7 26 (l_ 25),p_ 8 27 (.bin 3 0 (.t 20) (.t 26)),p_ 9 9 (m_ 27)]) (.seq (.seq (g_ 2 [p_ 0 28 (f_ 0 7),r_ 1 29 (l_ 28)]) (.block 2 (.seq (.block 7 (.seq (.block 6 (.seq (.block 5 (.seq (.block 4 (.seq (.block 3 (.seq (.seq (.seq (g_ 2 [p_ 0 31 (.bin 3 4 (.t 29) (v_ 1 10)),p_ 1 30 (m_ 31)]) (.cond (.t 30) (.exit 3) .skip)) (.seq (.seq (g_ 2 [p_ 0 33 (.bin 3 4 (.t 29) (v_ 1 3)),p_ 1 32 (m_ 33)]) (.cond (.t 32) (.exit 4) .skip)) (.seq (.seq (.seq (g_ 2 [p_ 0 35 (.bin 3 4 (.t 29) (v_ 1 4)),p_ 1 34 (m_ 35)]) (.cond (.t 34) .skip (.seq (g_ 2 [p_ 0 36 (.bin 3 4 (.t 29) (v_ 1 5)),p_ 1 34 (m_ 36)]) (.cond (.t 34) .skip (g_ 2 [p_ 0 37 (.bin 3 4 (.t 29) (v_ 1 9)),p_ 1 34 (m_ 37)]))))) (.cond (.t 34) (.exit 5) .skip)) (.seq (.seq (g_ 2 [p_ 0 39 (.bin 3 4 (.t 29) (v_ 1 11)),p_ 1 38 (m_ 39)]) (.cond (.t 38) (.exit 6) .skip)) (.seq (g_ 2 [p_ 0 41 (.bin 3 4 (.t 29) (v_ 1 12)),p_ 1 40 (m_ 41)]) (.cond (.t 40) (.exit 7) .skip)))))) (.exit 2))) (.seq (.seq (.seq (h_ 8 [p_ 0 42 (f_ 22 7),p_ 1 43 (f_ 1 42),r_ 2 44 (l_ 43),p_ 3 45 (m_ 0),p_ 4 46 (n_ 45),p_ 5 47 (f_ 15 46),r_ 6 48 (l_ 47),p_ 7 49 (.bin 3 2 (.t 44) (.t 48))]) (.cond (.t 49) (g_ 7 [p_ 0 50 (m_ 0),p_ 1 51 (m_ 1),p_ 2 52 (f_ 22 7),r_ 3 53 (.ld true 3 (.t 52)),p_ 4 54 (f_ 29 7),r_ 5 55 (l_ 54),c_ 6 56 46 [.t 50,.t 51,.t 53,.t 55]]) .skip)) (.seq (g_ 1 [p_ 0 8 (.mv N_)]) .ret)) (.exit 2)))) (.seq (g_ 2 [p_ 0 57 (m_ 9),p_ 1 58 (.un 0 (.t 57))]) (.cond (.t 58) (.seq (g_ 5 [p_ 0 59 (m_ 0),r_ 1 60 (.ld true 2 (.t 6)),r_ 2 61 (.ld true 31 (.t 7)),c_ 3 62 75 [.t 59,.t 60,.t 61],p_ 4 8 (m_ 62)]) .ret) .skip)))) (.seq (.seq (g_ 5 [p_ 0 63 (m_ 0),c_ 1 64 19 [.t 63],p_ 2 65 (m_ 64),ah 3 66 65 true (m_ 9),p_ 4 67 (.pick (.t 65) (.t 66) F_)]) (.cond (.t 67) (.seq (.reg true 7 (.split 2 4 (.leaf [p_ 0 68 (m_ 0),p_ 1 69 (m_ 0),r_ 3 71 (.ld true 2 (.t 6)),c_ 2 70 76 [.t 69],a_ 3 71 (.ld true 2 (.t 6)),e_ 4 72 (.bsl 52 2 1 [j_ 1 0,j_ 2 0] [(0,2)] [.t 71]),c_ 5 73 69 [.t 68,.t 70,.t 72],p_ 6 8 (m_ 73)]) (.leaf [p_ 0 68 (m_ 0),p_ 1 69 (m_ 0),r_ 3 71 (.ld true 2 (.t 6)),e_ 4 72 (.bsl 52 2 1 [j_ 1 0,j_ 2 0] [(0,2)] [.t 71]),c_ 2 70 76 [.t 69],c_ 5 73 69 [.t 68,.t 70,.t 72],p_ 6 8 (m_ 73)]))) .ret) .skip)) (.exit 2)))) (.seq (.seq (g_ 2 [p_ 0 74 (m_ 0),c_ 1 75 19 [.t 74]]) (.cond (.t 75) (.seq (g_ 5 [p_ 0 76 (m_ 0),p_ 1 77 (f_ 25 7),r_ 2 78 (.ld true 2 (.t 77)),c_ 3 79 77 [.t 76,.t 78],p_ 4 8 (m_ 79)]) .ret) .skip)) (.exit 2)))) (.seq (.seq (g_ 2 [p_ 0 80 (m_ 0),c_ 1 81 19 [.t 80]]) (.cond (.t 81) (g_ 4 [p_ 0 82 (m_ 0),p_ 1 83 (f_ 25 7),r_ 2 84 (.ld true 2 (.t 83)),c_ 3 85 39 [.t 82,.t 84]]) .skip)) (.exit 2))))) (.seq (.seq (h_ 14 [p_ 0 86 (m_ 0),c_ 1 87 19 [.t 86],p_ 2 88 (.un 0 (.t 87)),p_ 3 89 (m_ 88),ah 4 90 89 false (f_ 3 7),aT 5 91 89 false (l_ 90),ah 6 92 89 false (m_ 0),ah 7 93 89 false (n_ 92),ah 8 94 89 false (f_ 0 93),ah 9 95 89 false (f_ 0 94),ah 10 96 89 false (f_ 1 95),aT 11 97 89 false (l_ 96),ah 12 98 89 false (.bin 3 5 (.t 91) (.t 97)),p_ 13 99 (.pick (.t 89) T_ (.t 98))]) (.cond (.t 99) (.seq (g_ 1 [p_ 0 8 (.mv N_)]) .ret) .skip)) (.seq (g_ 6 [p_ 0 100 (m_ 0),p_ 1 101 (m_ 1),r_ 2 102 (.ld true 2 (.t 6)),r_ 3 103 (.ld true 31 (.t 7)),c_ 4 104 78 [.t 100,.t 101,.t 102,.t 103],p_ 5 8 (m_ 104)]) .ret))))))
theorem bt:bN Tryz.prog 51 bZ=true:=by kernel_rfl
structure nH where (l2:List Ke) (com2 x_n x_c:Int) (x_vh:Value) (x_vl:List Int) (x_mh:Value) (x_ml:List Int) (x_h:Value) (x_l:List Ke) (x_th:Value) (x_tl:List Ke) (now:Int)
structure BF where (h:Value) (e:List Ke)
def wJ (p:nH) (r:BF):Prop:=r.e=p.l2
noncomputable def ZR (p:nH):IE:=([.ptr 0 0,.sy (.int 0 p.now),dL 1,eR 5 1 p.x_n p.x_c 257 [] 0 p.x_vh p.x_vl p.x_mh p.x_ml p.x_h p.x_l p.x_th p.x_tl],(CO p.l2 p.com2),11)
noncomputable def Vx (p:nH) (K:KE) (r:BF):Bool:=K (.sl 1 0 1 (.ex 1)) (WK p.l2 p.com2 p.now r.h r.e p.l2.length) 12
noncomputable def QC (p:nH) (K:KE):Bool:=ae fun r=>iP (wJ p r) (Vx p K r) true
def yR (p:nH):Prop:=0≤p.now∧p.now≤1000000∧p.x_vl=[]∧p.x_ml=[]∧p.x_l=[]∧p.x_tl=[]∧p.x_n=0∧p.x_c=0∧p.l2.length≤400
theorem ad2 {p:nH} {K:KE} (hK:QC p K=true) {r:BF} (h:wJ p r):Vx p K r=true:=ax h (aq hK r)
theorem ae8:Vf yR QC 1 YT aJ bZ ZR:=by
 intro p K hpre hK
 refine Eq.trans (b:=(aL Hv jM ⟨p.x_n,p.x_c,p.x_vh,p.x_vl,p.x_mh,p.x_ml,p.x_h,p.x_l,p.x_th,p.x_tl⟩ fun p1=>iP (400<(p.x_l.length:Int)) (K .nilS (CO p.l2 p.com2) 11) (iP (400<(p.x_tl.length:Int)) (K .nilS (CO p.l2 p.com2) 11) (mP (p.l2.length=p.l2.length∧0≤(0:Int)∧(0:Int)≤(p.l2.length:Int)∧(p.l2.length:Int)≤(p.l2.length:Int)) (ay cN bJ aZ ⟨p.l2,(0:Nat),p.l2.length - 0⟩ fun p2 r1=>K (.sl 1 0 1 (.ex 1)) (WK p2.l p.com2 p.now r1.h r1.o p.l2.length) 12))))) (by kernel_rfl) ?_
 dsimp only[yR]at hpre
 obtain⟨n0,n1,h_vl,h_ml,h_l,h_tl,h_n,h_c,hx⟩:=hpre
 have e_vl:=congrArg List.length h_vl
 have e_ml:=congrArg List.length h_ml
 have e_l:=congrArg List.length h_l
 have e_tl:=congrArg List.length h_tl
 simp only[apy]at e_vl e_ml e_l e_tl
 refine aV (by(try dsimp only[jM]);repeat(first|assumption|omega|apply And.intro)) ?_
 refine iX fun hc1=> ?_
 refine iX fun hc2=> ?_
 refine cz ?_
 refine cV fun r1 hi3=> ?_
 dsimp only[aZ]at hi3 ⊢
 exact ad2 (r:=⟨r1.h,r1.o⟩) hK (by dsimp only[wJ]<;>(first|(simp_all;done)))
noncomputable def nc_yp3_2:EE 51 1:=bA (fun us M=>aA (aA (Nat.beq (zC M 0 8) 2) (Nat.beq (zC M 0 1) 1)) (cT M 0 11)) (nE bt ae8) eS
noncomputable def Rv:NN:=bB YT nc_yp3_2.2 [(0,4),(1,20),(2,15),(3,15)] (fun us=>aA (Nat.beq (aC us 2 0) 1) (Nat.beq (aC us 3 0) 5))
noncomputable def aoR (l2:List Ke) (com2 t2:Int) (hm2:Value) (m2:List Int) (ht2:Value) (a2:List Ke):T:=(n2 (n2 (n2 (n0 (aE 0 1 2)) (hQ hm2 m2 ht2 a2) .leaf) (aE 0 1 2) (n2 (n0 (cP 0 0 1 0 2 0)) (bL 1) .leaf)) (gJ 1 3 2 3 t2 2 4 5 6) (n2 (n2 (n0 (aO l2)) (aE 0 1 2) .leaf) (bj 7 3 2 8 l2.length com2 true 9) (n2 (n0 (aE 0 1 2)) (bm true 10 3) .leaf)))
noncomputable def WN (l2:List Ke) (com2 t2:Int) (hm2:Value) (m2:List Int) (ht2:Value) (a2:List Ke):T:=(n2 (n2 (n2 (n0 (bm true 11 3)) (bj 8 3 2 9 l2.length com2 true 10) (n0 (aE 0 1 2))) (o_M []) (n2 (n0 (aO l2)) (aE 0 1 2) .leaf)) (gJ 2 3 3 4 t2 2 5 6 7) (n2 (n2 (n0 (aE 0 1 2)) (hQ hm2 m2 ht2 a2) .leaf) (aE 0 1 2) (n2 (n0 (cP 0 0 1 0 2 0)) (bL 1) .leaf)))
structure HC where (l2:List Ke) (com2 t2 x_n x_c:Int) (x_vh:Value) (x_vl:List Int) (x_mh:Value) (x_ml:List Int) (x_h:Value) (x_l:List Ke) (x_th:Value) (x_tl:List Ke) (now:Int)
structure Hk where (hm2:Value) (m2:List Int) (ht2:Value) (a2:List Ke)
noncomputable def ZU (p:HC):IE:=([.ptr 0 0,.sy (.int 0 p.now),dL 1,eR 9 1 p.x_n p.x_c 257 [] 0 p.x_vh p.x_vl p.x_mh p.x_ml p.x_h p.x_l p.x_th p.x_tl],(acA p.l2 p.com2 p.t2),11)
noncomputable def adh (p:HC) (K:KE):Bool:=ae fun r:Hk=>K (.sl 1 0 1 (.ex 1)) (WN p.l2 p.com2 p.t2 r.hm2 r.m2 r.ht2 r.a2) 12
def yU (p:HC):Prop:=0≤p.now∧p.now≤1000000∧p.x_vl=[]∧p.x_l=[]∧p.x_n=0∧p.x_c=0∧p.x_ml=[(1:Int),(2:Int)]∧bF p.x_tl∧p.x_tl.length≤400
theorem afb:Vf yU adh 1 Rv aJ bZ ZU:=by
 intro p K hpre hK
 refine Eq.trans (b:=(aL SW sE ⟨p.x_n,p.x_c,p.x_vh,p.x_vl,p.x_mh,p.x_ml,p.x_h,p.x_l,p.x_th,p.x_tl⟩ fun p1=>iP (400<(p.x_l.length:Int)) (K .nilS (acA p.l2 p.com2 p.t2) 11) (iP (400<(p.x_tl.length:Int)) (K .nilS (acA p.l2 p.com2 p.t2) 11) (ay cQ bP bf ⟨p.x_mh,p.x_ml,p.x_th,p.x_tl⟩ fun p2 r1=>K (.sl 1 0 1 (.ex 1)) (WN p.l2 p.com2 p.t2 r1.hm r1.ml r1.ht r1.tl) 12)))) (by kernel_rfl) ?_
 dsimp only[yU]at hpre
 obtain⟨n0,n1,h_vl,h_l,h_n,h_c,hx⟩:=hpre
 have e_vl:=congrArg List.length h_vl
 have e_l:=congrArg List.length h_l
 simp only[apy]at e_vl e_l
 obtain⟨hml,hks,hx3⟩:=hx
 have e_ml:=congrArg List.length hml
 simp only[apw,apy]at e_ml
 refine aV (by(try dsimp only[sE]);repeat(first|assumption|omega|apply And.intro)) ?_
 refine iX fun hc1=> ?_
 refine iX fun hc2=> ?_
 refine cS fun r1 hi3=> ?_
 dsimp only[bf]at hi3
 obtain⟨hi3,hs3⟩:=hi3
 exact aq hK (⟨r1.hm,r1.ml,r1.ht,r1.tl⟩:Hk)
noncomputable def nc_yo3_2:EE 51 1:=bA (fun us M=>aA (aA (Nat.beq (zC M 0 8) 2) (Nat.beq (zC M 0 1) 1)) (cT M 0 11)) (nE bt afb) eS
noncomputable def Ry:NN:=bB Rv nc_yo3_2.2 [(0,4),(1,20),(2,15),(3,15)] (fun us=>aA (Nat.beq (aC us 2 0) 1) (Nat.beq (aC us 3 0) 9))
noncomputable def aez (l1:List Ke) (com1 t u:Int) (hq:Value) (tq:List Ke) (hcm:Value) (cm:List Int) (hct:Value) (ct:List Ke) (ham:Value) (aw:List Int) (hat:Value) (av:List Ke):T:=(n2 (n2 (n2 (n0 (bm true 13 3)) (hQ ham aw hat av) (n0 (aE 0 1 2))) (aE 0 1 2) (n2 (n0 (aO l1)) (aE 0 1 2) (n0 (aE 0 1 2)))) (jR 1 3 2 3 4 t 5 6 u 7) (n2 (n2 (n0 (aE 0 1 2)) (xw 11 3 1 12 hq tq hcm cm hct ct) (n0 (rr 2 3))) (bj 8 3 1 9 l1.length com1 true 10) (n2 (n0 (cP 0 0 1 0 2 0)) (bL 1) .leaf)))
noncomputable def LP (l1:List Ke) (com1 t u:Int) (hq:Value) (tq:List Ke) (hcm:Value) (cm:List Int) (hct:Value) (ct:List Ke) (ham:Value) (aw:List Int) (hat:Value) (av:List Ke) (hm:Value) (mm:List Int) (ht:Value) (tt:List Ke):T:=(n2 (n2 (n2 (n0 (bL 1)) (bj 9 3 1 10 l1.length com1 true 11) (n0 (cP 0 0 1 0 2 0))) (.blk true 118 33 [[.int 1 (.ofNat 0),.int 2 (.ofNat 1),.int 1 (.ofNat 9),.int 1 (.ofNat 0),.int 1 (.ofNat 0),.int 3 (.ofNat 1),.int 3 (.ofNat 0),.int 3 (.ofNat 0),.int 3 (.ofNat 0),.int 4 (.ofNat 257),.int 4 (.ofNat 0),.int 1 (.ofNat 0),.int 2 (.ofNat 0),.int 3 (.ofNat 0),.int 1 (.ofNat 0),.int 1 (.ofNat 0),.int 1 (.ofNat 0),.int 1 (.ofNat 0),.int 1 (.ofNat 0),.int 1 (.ofNat 0),.int 1 (.ofNat 0),.nilS,.int 1 (.ofNat 0),.str [],.int 1 (.ofNat 0),.int 3 (.ofNat 0),.nilS,.int 1 (.ofNat 0),.int 2 (.ofNat 0),.bool false,.sy (.imm hm 2 Int mm aG),.nilS,.sy (.imm ht 18 Ke tt au)],[.int 1 (.ofNat 2),.int 2 (.ofNat 1),.int 1 (.ofNat 9),.int 1 (.ofNat 0),.int 1 (.ofNat 0),.int 3 (.ofNat 1),.int 3 (.ofNat 0),.int 3 (.ofNat 0),.int 3 (.ofNat 0),.int 4 (.ofNat 257),.int 4 (.ofNat 0),.int 1 (.ofNat 0),.int 2 (.ofNat 0),.int 3 (.ofNat 0),.int 1 (.ofNat 0),.int 1 (.ofNat 0),.int 1 (.ofNat 0),.int 1 (.ofNat 0),.int 1 (.ofNat 0),.int 1 (.ofNat 0),.int 1 (.ofNat 0),.nilS,.int 1 (.ofNat 0),.str [],.int 1 (.ofNat 0),.int 3 (.ofNat 0),.nilS,.int 1 (.ofNat 0),.int 2 (.ofNat 0),.bool false,.sy (.imm hm 2 Int mm aG),.nilS,.sy (.imm ht 18 Ke tt au)]]) (n2 (n0 (aE 0 1 2)) (xw 12 3 1 13 hq tq hcm cm hct ct) (n0 (rr 2 3)))) (jR 2 3 3 4 5 t 6 7 u 8) (n2 (n2 (n0 (bm true 14 3)) (hQ ham aw hat av) (n0 (aE 0 1 2))) (aE 0 1 2) (n2 (n0 (aO l1)) (aE 0 1 2) (n0 (aE 0 1 2)))))
structure pL where (l1:List Ke) (com1 t u:Int) (hq:Value) (tq:List Ke) (x_n x_c:Int) (x_vh:Value) (x_vl:List Int) (x_mh:Value) (x_ml:List Int) (x_h:Value) (x_l:List Ke) (x_th:Value) (x_tl:List Ke) (now:Int)
structure Hj where (hcm:Value) (cm:List Int) (hct:Value) (ct:List Ke) (ham:Value) (aw:List Int) (hat:Value) (av:List Ke) (hm:Value) (mm:List Int) (ht:Value) (tt:List Ke)
def wG (p:pL) (r:Hj):Prop:=r.cm=[(1:Int),(2:Int)]∧r.ct=p.tq∧r.mm=[(1:Int),(2:Int)]∧r.tt=p.tq
noncomputable def ZO (p:pL):IE:=([.ptr 0 0,.sy (.int 0 p.now),dL 2,eR 8 1 p.x_n p.x_c 257 [] 0 p.x_vh p.x_vl p.x_mh p.x_ml p.x_h p.x_l p.x_th p.x_tl],(aeA p.l1 p.com1 p.t p.u p.hq p.tq),14)
noncomputable def Cs (p:pL) (K:KE) (r:Hj):Bool:=K (.sl 1 0 2 (.rest 0)) (LP p.l1 p.com1 p.t p.u p.hq p.tq r.hcm r.cm r.hct r.ct r.ham r.aw r.hat r.av r.hm r.mm r.ht r.tt) 15
noncomputable def Qz (p:pL) (K:KE):Bool:=ae fun r=>iP (wG p r) (Cs p K r) true
def yO (p:pL):Prop:=0≤p.now∧p.now≤1000000∧p.x_vl=[]∧p.x_ml=[]∧p.x_tl=[]∧p.x_n=0∧p.x_c=0∧p.x_l.length=p.tq.length∧bF p.x_l∧p.x_l.length≤400
theorem Sp {p:pL} {K:KE} (hK:Qz p K=true) {r:Hj} (h:wG p r:=by dsimp only[wG]<;>exact⟨by assumption,by simp_all,by assumption,by simp_all⟩):Cs p K r=true:=ax h (aq hK r)
theorem ae5:Vf yO Qz 1 Ry aJ bZ ZO:=by
 intro p K hpre hK
 refine Eq.trans (b:=(let z0:Bool:=(K .nilS (aeA p.l1 p.com1 p.t p.u p.hq p.tq) 14);aL Ht jK ⟨p.x_n,p.x_c,p.x_vh,p.x_vl,p.x_mh,p.x_ml,p.x_h,p.x_l,p.x_th,p.x_tl⟩ fun p1=>iP (400<(p.x_l.length:Int)) z0 (iP (400<(p.x_tl.length:Int)) z0 (iP ((p.tq.length:Int)<(p.x_l.length:Int)) (ay dI co bx ⟨p.x_h,p.x_l⟩ fun p2 r1=>aa (cu (cu (ay rl eM eO ⟨r1.h,r1.o⟩ fun p3 r2=>ay cQ bP bf ⟨r2.hm,r2.ml,r2.ht,r2.tl⟩ fun p4 r3=>aa (qL [qY ((.imm r3.hm 2 Int r3.ml aG)),qY ((.imm r3.ht 18 Ke r3.tl au))]) (ay cQ bP bf ⟨r3.hm,r3.ml,r3.ht,r3.tl⟩ fun p5 r4=>ay cQ bP bf ⟨r2.hm,r2.ml,r2.ht,r2.tl⟩ fun p6 r5=>mE (.imm r5.ht 18 Ke r5.tl au) (aa (qL [qY ((.imm r5.hm 2 Int r5.ml aG)),qY ((.imm r5.ht 18 Ke r5.tl au))]) (K (.sl 1 0 2 (.rest 0)) (LP p.l1 p.com1 p.t p.u r1.h r1.o r2.hm r2.ml r2.ht r2.tl r4.hm r4.ml r4.ht r4.tl r5.hm r5.ml r5.ht r5.tl) 15)))))) (cu (ay rl eM eO ⟨r1.h,r1.o⟩ fun p19 r18=>ay cQ bP bf ⟨r18.hm,r18.ml,r18.ht,r18.tl⟩ fun p20 r19=>aa (qL [qY ((.imm r19.hm 2 Int r19.ml aG)),qY ((.imm r19.ht 18 Ke r19.tl au))]) (ay cQ bP bf ⟨r19.hm,r19.ml,r19.ht,r19.tl⟩ fun p21 r20=>ay cQ bP bf ⟨r18.hm,r18.ml,r18.ht,r18.tl⟩ fun p22 r21=>mE (.imm r21.ht 18 Ke r21.tl au) (aa (qL [qY ((.imm r21.hm 2 Int r21.ml aG)),qY ((.imm r21.ht 18 Ke r21.tl au))]) (K (.sl 1 0 2 (.rest 0)) (LP p.l1 p.com1 p.t p.u r1.h r1.o r18.hm r18.ml r18.ht r18.tl r20.hm r20.ml r20.ht r20.tl r21.hm r21.ml r21.ht r21.tl) 15)))))) (aa (cu (cu (ay rl eM eO ⟨p.hq,p.tq⟩ fun p27 r26=>ay cQ bP bf ⟨r26.hm,r26.ml,r26.ht,r26.tl⟩ fun p28 r27=>aa (qL [qY ((.imm r27.hm 2 Int r27.ml aG)),qY ((.imm r27.ht 18 Ke r27.tl au))]) (ay cQ bP bf ⟨r27.hm,r27.ml,r27.ht,r27.tl⟩ fun p29 r28=>ay cQ bP bf ⟨r26.hm,r26.ml,r26.ht,r26.tl⟩ fun p30 r29=>mE (.imm r29.ht 18 Ke r29.tl au) (aa (qL [qY ((.imm r29.hm 2 Int r29.ml aG)),qY ((.imm r29.ht 18 Ke r29.tl au))]) (Cs p K ⟨r26.hm,r26.ml,r26.ht,r26.tl,r28.hm,r28.ml,r28.ht,r28.tl,r29.hm,r29.ml,r29.ht,r29.tl⟩)))))) (cu (ay rl eM eO ⟨p.hq,p.tq⟩ fun p43 r42=>ay cQ bP bf ⟨r42.hm,r42.ml,r42.ht,r42.tl⟩ fun p44 r43=>aa (qL [qY ((.imm r43.hm 2 Int r43.ml aG)),qY ((.imm r43.ht 18 Ke r43.tl au))]) (ay cQ bP bf ⟨r43.hm,r43.ml,r43.ht,r43.tl⟩ fun p45 r44=>ay cQ bP bf ⟨r42.hm,r42.ml,r42.ht,r42.tl⟩ fun p46 r45=>mE (.imm r45.ht 18 Ke r45.tl au) (aa (qL [qY ((.imm r45.hm 2 Int r45.ml aG)),qY ((.imm r45.ht 18 Ke r45.tl au))]) (Cs p K ⟨r42.hm,r42.ml,r42.ht,r42.tl,r44.hm,r44.ml,r44.ht,r44.tl,r45.hm,r45.ml,r45.ht,r45.tl⟩)))))))))) (by kernel_rfl) ?_
 dsimp only[yO]at hpre
 obtain⟨n0,n1,h_vl,h_ml,h_tl,h_n,h_c,hx⟩:=hpre
 have e_vl:=congrArg List.length h_vl
 have e_ml:=congrArg List.length h_ml
 have e_tl:=congrArg List.length h_tl
 simp only[apy]at e_vl e_ml e_tl
 obtain⟨hle,hks,hx3⟩:=hx
 refine aV (by(try dsimp only[jK]);repeat(first|assumption|omega|apply And.intro)) ?_
 refine iX fun hc1=> ?_
 refine iX fun hc2=> ?_
 apply iI<;>intro hc3
 refine eg fun r1 hi4=> ?_
 dsimp only[bx]at hi4
 refine bI ?_ ?_
 refine bk ?_
 refine bk ?_
 refine aF (by(try dsimp only[eM]);omega) fun r2 hi5=> ?_
 dsimp only[eO]at hi5
 obtain⟨hi5,hs5⟩:=hi5
 refine cS fun r3 hi6=> ?_
 dsimp only[bf]at hi6
 obtain⟨hi6,hs6⟩:=hi6
 refine cq ?_
 refine cS fun r4 hi7=> ?_
 dsimp only[bf]at hi7
 obtain⟨hi7,hs7⟩:=hi7
 refine cS fun r5 hi8=> ?_
 dsimp only[bf]at hi8
 obtain⟨hi8,hs8⟩:=hi8
 refine aH ?_
 refine cq ?_
 exfalso;omega
 refine bk ?_
 refine aF (by(try dsimp only[eM]);omega) fun r18 hi9=> ?_
 dsimp only[eO]at hi9
 obtain⟨hi9,hs9⟩:=hi9
 refine cS fun r19 hi10=> ?_
 dsimp only[bf]at hi10
 obtain⟨hi10,hs10⟩:=hi10
 refine cq ?_
 refine cS fun r20 hi11=> ?_
 dsimp only[bf]at hi11
 obtain⟨hi11,hs11⟩:=hi11
 refine cS fun r21 hi12=> ?_
 dsimp only[bf]at hi12
 obtain⟨hi12,hs12⟩:=hi12
 refine aH ?_
 refine cq ?_
 exfalso;omega
 refine bI ?_ ?_
 refine bk ?_
 refine bk ?_
 refine aF (by(try dsimp only[eM]);omega) fun r26 hi13=> ?_
 dsimp only[eO]at hi13
 obtain⟨hi13,hs13⟩:=hi13
 refine cS fun r27 hi14=> ?_
 dsimp only[bf]at hi14
 obtain⟨hi14,hs14⟩:=hi14
 refine cq ?_
 refine cS fun r28 hi15=> ?_
 dsimp only[bf]at hi15
 obtain⟨hi15,hs15⟩:=hi15
 refine cS fun r29 hi16=> ?_
 dsimp only[bf]at hi16
 obtain⟨hi16,hs16⟩:=hi16
 refine aH ?_
 refine cq ?_
 exact Sp hK
 refine bk ?_
 refine aF (by(try dsimp only[eM]);omega) fun r42 hi17=> ?_
 dsimp only[eO]at hi17
 obtain⟨hi17,hs17⟩:=hi17
 refine cS fun r43 hi18=> ?_
 dsimp only[bf]at hi18
 obtain⟨hi18,hs18⟩:=hi18
 refine cq ?_
 refine cS fun r44 hi19=> ?_
 dsimp only[bf]at hi19
 obtain⟨hi19,hs19⟩:=hi19
 refine cS fun r45 hi20=> ?_
 dsimp only[bf]at hi20
 obtain⟨hi20,hs20⟩:=hi20
 refine aH ?_
 refine cq ?_
 exact Sp hK
noncomputable def nc_yr3_2:EE 51 1:=bA (fun us M=>aA (aA (Nat.beq (zC M 0 8) 1) (Nat.beq (zC M 0 1) 1)) (cT M 0 11)) (nE bt ae5) eS
noncomputable def Rs:NN:=bB Ry nc_yr3_2.2 [(0,4),(1,20),(2,15),(3,15)] (fun us=>aA (Nat.beq (aC us 2 0) 2) (Nat.beq (aC us 3 0) 8))
noncomputable def acB (l1:List Ke) (com1 b1 u c0 c1:Int):T:=(n2 (n2 (n2 (n0 gK) (bu 0) (n0 gK)) gK (n2 (n0 (Dq c0 c1)) (bL 0) .leaf)) (nU 1 2 2 3 1 4 3 5 u 6) (n2 (n2 (n0 (aO l1)) (aE 0 1 2) .leaf) (ig 7 2 1 8 l1.length b1 com1 9) (n2 (n0 (aE 0 1 2)) (nX 10 3 11 2) .leaf)))
structure pM where (l1:List Ke) (com1 t u:Int) (hq:Value) (tq:List Ke) (hcm:Value) (cm:List Int) (hct:Value) (ct:List Ke) (ham:Value) (aw:List Int) (hat:Value) (av:List Ke) (x_n x_c:Int) (x_vh:Value) (x_vl:List Int) (x_mh:Value) (x_ml:List Int) (x_h:Value) (x_l:List Ke) (x_th:Value) (x_tl:List Ke) (now:Int)
structure Hm where (l1:List Ke) (z:Int) (hm:Value) (mm:List Int) (h:Value) (e:List Ke)
def wP (p:pM) (r:Hm):Prop:=r.l1=p.l1∧r.z=(p.l1.length:Int)∧r.mm=[(1:Int),(2:Int)]∧r.e=p.l1
noncomputable def aaa (p:pM):IE:=([.ptr 0 0,.sy (.int 0 p.now),dL 2,eR 6 1 p.x_n p.x_c 257 [] 0 p.x_vh p.x_vl p.x_mh p.x_ml p.x_h p.x_l p.x_th p.x_tl],(aez p.l1 p.com1 p.t p.u p.hq p.tq p.hcm p.cm p.hct p.ct p.ham p.aw p.hat p.av),14)
noncomputable def VC (p:pM) (K:KE) (r:Hm):Bool:=K (.sl 1 0 2 (.rest 0)) (Dn3 r.l1 r.z r.z (p.now+2) r.z r.z r.hm r.mm r.h r.e) 13
noncomputable def QH (p:pM) (K:KE):Bool:=ae fun r=>iP (wP p r) (VC p K r) true
def za (p:pM):Prop:=0≤p.now∧p.now≤1000000∧p.x_vl=[]∧p.x_ml=[]∧p.x_l=[]∧p.x_tl=[]∧p.x_n=0∧p.x_c=0∧p.l1.length≤400∧p.ct=p.l1∧p.cm=[(1:Int),(2:Int)]
theorem Sr {p:pM} {K:KE} (hK:QH p K=true) {r:Hm} (h:wP p r:=by dsimp only[wP]<;>assumption):VC p K r=true:=ax h (aq hK r)
theorem afh:Vf za QH 1 Rs aJ bZ aaa:=by
 intro p K hpre hK
 refine Eq.trans (b:=(let z0:Bool:=(K .nilS (aez p.l1 p.com1 p.t p.u p.hq p.tq p.hcm p.cm p.hct p.ct p.ham p.aw p.hat p.av) 14);aL Hu jL ⟨p.x_n,p.x_c,p.x_vh,p.x_vl,p.x_mh,p.x_ml,p.x_h,p.x_l,p.x_th,p.x_tl⟩ fun p1=>iP (400<(p.x_l.length:Int)) z0 (iP (400<(p.x_tl.length:Int)) z0 (aa (cu (cu (ay Gd lj ix ⟨p.l1,p.com1,p.t,p.u,p.hq,p.tq,p.hcm,p.cm,p.hct,p.ct,p.ham,p.aw,p.hat,p.av,p.now⟩ fun p2 r1=>K (.sl 1 0 2 (.rest 0)) (Dn3 r1.o r1.z r1.z (p2.now+2) r1.z r1.z r1.hm r1.ml r1.h r1.e) 13))) (cu (ay Gd lj ix ⟨p.l1,p.com1,p.t,p.u,p.hq,p.tq,p.hcm,p.cm,p.hct,p.ct,p.ham,p.aw,p.hat,p.av,p.now⟩ fun p6 r5=>K (.sl 1 0 2 (.rest 0)) (Dn3 r5.o r5.z r5.z (p6.now+2) r5.z r5.z r5.hm r5.ml r5.h r5.e) 13)))))) (by kernel_rfl) ?_
 dsimp only[za]at hpre
 obtain⟨n0,n1,h_vl,h_ml,h_l,h_tl,h_n,h_c,hx⟩:=hpre
 have e_vl:=congrArg List.length h_vl
 have e_ml:=congrArg List.length h_ml
 have e_l:=congrArg List.length h_l
 have e_tl:=congrArg List.length h_tl
 simp only[apy]at e_vl e_ml e_l e_tl
 obtain⟨hx1,hx2,hx3⟩:=hx
 refine aV (by(try dsimp only[jL]);repeat(first|assumption|omega|apply And.intro)) ?_
 refine iX fun hc1=> ?_
 refine iX fun hc2=> ?_
 refine bI ?_ ?_
 refine bk ?_
 refine bk ?_
 refine aF (by(try dsimp only[lj]);exact⟨by omega,by assumption,by assumption,by omega,by omega⟩) fun r1 hi3=> ?_
 dsimp only[ix]at hi3 ⊢
 exact Sr (r:=⟨r1.o,r1.z,r1.hm,r1.ml,r1.h,r1.e⟩) hK
 refine bk ?_
 refine aF (by(try dsimp only[lj]);exact⟨by omega,by assumption,by assumption,by omega,by omega⟩) fun r5 hi4=> ?_
 dsimp only[ix]at hi4 ⊢
 exact Sr (r:=⟨r5.o,r5.z,r5.hm,r5.ml,r5.h,r5.e⟩) hK
noncomputable def nc_ya3_2:EE 51 1:=bA (fun us M=>aA (aA (Nat.beq (zC M 0 8) 1) (Nat.beq (zC M 0 1) 1)) (cT M 0 11)) (nE bt afh) eS
noncomputable def RE:NN:=bB Rs nc_ya3_2.2 [(0,4),(1,20),(2,15),(3,15)] (fun us=>aA (Nat.beq (aC us 2 0) 2) (Nat.beq (aC us 3 0) 6))
noncomputable def Hc (l2:List Ke) (com2 b2 u2 d2_0 d2_1:Int):T:=(n2 (n2 (n2 (n0 gK) (bu 0) (n0 gK)) gK (n2 (n0 (Dq d2_0 d2_1)) (bL 0) .leaf)) (nU 1 2 2 3 2 4 3 5 u2 6) (n2 (n2 (n0 (aO l2)) (aE 0 1 2) .leaf) (ig 7 2 2 8 l2.length b2 com2 9) (n2 (n0 (aE 0 1 2)) (nX 10 3 11 2) .leaf)))
structure rU where (l2:List Ke) (com2 t2:Int) (hm2:Value) (m2:List Int) (ht2:Value) (a2:List Ke) (x_n x_c:Int) (x_vh:Value) (x_vl:List Int) (x_mh:Value) (x_ml:List Int) (x_h:Value) (x_l:List Ke) (x_th:Value) (x_tl:List Ke) (now:Int)
structure Hl where (l2:List Ke)
def wN (p:rU) (r:Hl):Prop:=r.l2=p.x_l
noncomputable def ZX (p:rU):IE:=([.ptr 0 0,.sy (.int 0 p.now),dL 1,eR 10 0 p.x_n p.x_c 0 [] 2 p.x_vh p.x_vl p.x_mh p.x_ml p.x_h p.x_l p.x_th p.x_tl],(aoR p.l2 p.com2 p.t2 p.hm2 p.m2 p.ht2 p.a2),11)
noncomputable def VA (p:rU) (K:KE) (r:Hl):Bool:=K .nilS (Hc r.l2 (p.x_l.length:Int) (p.x_l.length:Int) (p.now+2) (p.x_l.length:Int) (p.x_l.length:Int)) 12
noncomputable def QF (p:rU) (K:KE):Bool:=ae fun r=>iP (wN p r) (VA p K r) true
def yX (p:rU):Prop:=0≤p.now∧p.now≤1000000∧p.x_ml=[]∧p.x_tl=[]∧p.x_n=0∧p.x_c=0∧p.x_vl=[(1:Int),(2:Int)]∧bF p.x_l∧p.x_l.length≤400
theorem ad5 {p:rU} {K:KE} (hK:QF p K=true) {r:Hl} (h:wN p r):VA p K r=true:=ax h (aq hK r)
theorem afe:Vf yX QF 1 RE aJ bZ ZX:=by
 intro p K hpre hK
 refine Eq.trans (b:=(aL NJ qh ⟨p.x_n,p.x_c,p.x_vh,p.x_vl,p.x_mh,p.x_ml,p.x_h,p.x_l,p.x_th,p.x_tl⟩ fun p1=>aL Db jy ⟨p.x_vh,p.x_vl⟩ fun p2=>aL dX cJ ⟨p.x_vh,p.x_vl⟩ fun p3=>aa (qL [qY ((.imm p.x_vh 2 Int p.x_vl aG))]) (ay FY mQ kQ ⟨p.x_vh,p.x_vl,p.x_h,p.x_l⟩ fun p4 r1=>aL dX cJ ⟨p.x_vh,p.x_vl⟩ fun p5=>aL vi fQ ⟨p.x_vh,p.x_vl⟩ fun p6=>mP (aI 0 (p.now+2)) (K .nilS (Hc r1.o (p4.e.length:Int) (p4.e.length:Int) (p.now+2) (p4.e.length:Int) (p4.e.length:Int)) 12)))) (by kernel_rfl) ?_
 dsimp only[yX]at hpre
 obtain⟨n0,n1,h_ml,h_tl,h_n,h_c,hx⟩:=hpre
 have e_ml:=congrArg List.length h_ml
 have e_tl:=congrArg List.length h_tl
 simp only[apy]at e_ml e_tl
 obtain⟨hvl_,hks,hx3⟩:=hx
 have e_vl:=congrArg List.length hvl_
 simp only[apw,apy]at e_vl
 refine aV (by(try dsimp only[qh]);repeat(first|assumption|omega|apply And.intro)) ?_
 refine aV (by(try dsimp only[jy]);assumption) ?_
 refine ek ?_
 refine cq ?_
 refine aF (by(try dsimp only[mQ]);exact⟨by assumption,by first|omega|(simp only[apv,apL,apW];omega)⟩) fun r1 hi1=> ?_
 dsimp only[kQ]at hi1 ⊢
 refine ek ?_
 refine aV (by(try dsimp only[fQ]);assumption) ?_
 refine be ?_
 exact ad5 (r:=⟨r1.o⟩) hK (by dsimp only[wN]<;>(first|exact hi1.1|(simp_all;done)))
noncomputable def nc_yi3_2:EE 51 1:=bA (fun us M=>aA (aA (Nat.beq (zC M 0 8) 2) (Nat.beq (zC M 0 1) 1)) (cT M 0 11)) (nE bt afe) eS
noncomputable def RB:NN:=bB RE nc_yi3_2.2 [(0,4),(1,20),(2,15),(3,15)] (fun us=>aA (Nat.beq (aC us 2 0) 1) (Nat.beq (aC us 3 0) 10))
noncomputable def ag4 (l0:List Ke) (com0 g0 g1 g2:Int) (l1:List Ke) (com1:Int) (l2:List Ke) (com2:Int) (L:List Fx) (a o cp:Nat) (now cnt:Int):T:=(n2 (n2 (n2 (n2 (n2 (n0 (aE 0 1 2)) (aE 0 1 2) .leaf) (aE 0 1 2) (n0 (bm true 35 3))) (nV L) (n2 (n2 (n0 (aE 0 1 2)) (bj 32 3 2 33 l2.length com2 false 34) .leaf) (bm true 27 3) (n0 (aE 0 1 2)))) QV (n2 (n2 (n2 (n0 (aO l2)) (bm true 31 3) .leaf) (bu 0) (n0 (aO l0))) (zq 12 3 13 14 1 15 16 17) (n2 (n0 (aE 0 1 2)) (bj 28 3 1 29 l1.length com1 false 30) (n0 (aO l1))))) (nW 3 a (L.length - a) o (some cp) now cnt) (n2 (n2 (n2 (n2 (n0 (aE 0 1 2)) (bL 1) .leaf) (bj 24 3 0 25 l0.length com0 false 26) (n0 (aE 0 1 2))) (eX 7 3 8 9 0 10 11) (n2 (n0 (bu 0)) (aE 0 1 2) (n0 (aE 0 1 2)))) (QW true) (n2 (n2 (n2 (n0 (cP 0 0 1 0 2 0)) (aE 0 1 2) .leaf) (aE 0 1 2) (n0 (cP 0 g0 1 g1 2 g2))) (zq 18 3 19 20 2 21 22 23) (n2 (n0 (bL 1)) (bu 0) (n0 (cP 0 0 1 0 2 0))))))
noncomputable def NE (l0:List Ke) (com0 g0 g1 g2:Int) (l1:List Ke) (com1 t u:Int) (hq:Value) (tq l2:List Ke) (com2:Int) (L:List Fx) (a o cp:Nat) (now cnt:Int):T:=(n2 (n2 (n2 (n2 (n2 (n0 (cP 0 0 1 0 2 0)) (Eo 32 3 33 hq tq) .leaf) (aE 0 1 2) (n0 (bL 1))) (nV L) (n2 (n2 (n0 (aE 0 1 2)) (aE 0 1 2) .leaf) (bm true 28 3) (n0 (cP 0 g0 1 g1 2 g2)))) QV (n2 (n2 (n2 (n0 (rr 0 1)) (bL 1) .leaf) (bu 0) (n0 (aE 0 1 2))) (jR 12 3 13 14 15 t 16 17 u 18) (n2 (n2 (n0 (cP 0 0 1 0 2 0)) (bu 0) .leaf) (bj 29 3 1 30 l1.length com1 true 31) (n0 (aE 0 1 2))))) (nW 3 a (L.length - a) o (some cp) now cnt) (n2 (n2 (n2 (n2 (n0 (aE 0 1 2)) (aE 0 1 2) .leaf) (bj 25 3 0 26 l0.length com0 false 27) (n0 (bm true 38 3))) (eX 7 3 8 9 0 10 11) (n2 (n2 (n0 (aO l2)) (bj 35 3 2 36 l2.length com2 false 37) .leaf) (aE 0 1 2) (n0 (aE 0 1 2)))) (QW true) (n2 (n2 (n2 (n0 (aE 0 1 2)) (bm true 34 3) .leaf) (aE 0 1 2) (n0 (aO l0))) (zq 19 3 20 21 2 22 23 24) (n2 (n2 (n0 (aE 0 1 2)) (aE 0 1 2) .leaf) (bu 257) (n0 (aO l1))))))
noncomputable def Ub (l0:List Ke) (com0 g0 g1 g2:Int) (l1:List Ke) (com1 t u:Int) (hq:Value) (tq l2:List Ke) (com2 t2:Int) (L:List Fx) (a o cp:Nat) (now cnt:Int):T:=(n2 (n2 (n2 (n2 (n2 (n0 (cP 0 0 1 0 2 0)) (Eo 32 3 33 hq tq) .leaf) (aE 0 1 2) (n0 (bL 1))) (nV L) (n2 (n2 (n0 (aE 0 1 2)) (aE 0 1 2) .leaf) (bm true 28 3) (n0 (cP 0 g0 1 g1 2 g2)))) QV (n2 (n2 (n2 (n0 (rr 0 1)) (bL 1) .leaf) (bu 0) (n0 (aE 0 1 2))) (jR 12 3 13 14 15 t 16 17 u 18) (n2 (n2 (n0 (cP 0 0 1 0 2 0)) (bu 257) .leaf) (bj 29 3 1 30 l1.length com1 true 31) (n0 (aE 0 1 2))))) (nW 3 a (L.length - a) o (some cp) now cnt) (n2 (n2 (n2 (n2 (n0 (aE 0 1 2)) (aE 0 1 2) .leaf) (bj 25 3 0 26 l0.length com0 false 27) (n0 (bm true 38 3))) (eX 7 3 8 9 0 10 11) (n2 (n2 (n0 (aO l2)) (bj 35 3 2 36 l2.length com2 true 37) .leaf) (aE 0 1 2) (n0 (aE 0 1 2)))) (QW true) (n2 (n2 (n2 (n0 (aE 0 1 2)) (bm true 34 3) .leaf) (aE 0 1 2) (n0 (aO l0))) (gJ 19 3 20 21 t2 2 22 23 24) (n2 (n2 (n0 (aE 0 1 2)) (aE 0 1 2) .leaf) (bu 257) (n0 (aO l1))))))
noncomputable def aid (l0:List Ke) (com0 g0 g1 g2:Int) (l1:List Ke) (com1 t u:Int) (hq:Value) (tq:List Ke) (hcm:Value) (cm:List Int) (hct:Value) (ct:List Ke) (ham:Value) (aw:List Int) (hat:Value) (av l2:List Ke) (com2 t2:Int) (L:List Fx) (a o cp:Nat) (now cnt:Int):T:=(n2 (n2 (n2 (n2 (n2 (n0 (cP 0 0 1 0 2 0)) (xw 32 3 1 33 hq tq hcm cm hct ct) .leaf) (aE 0 1 2) (n0 (bL 1))) (nV L) (n2 (n2 (n0 (aE 0 1 2)) (aE 0 1 2) .leaf) (bm true 28 3) (n0 (cP 0 g0 1 g1 2 g2)))) QV (n2 (n2 (n2 (n0 (rr 2 3)) (bL 1) .leaf) (bu 0) (n0 (aE 0 1 2))) (jR 12 3 13 14 15 t 16 17 u 18) (n2 (n2 (n0 (cP 0 0 1 0 2 0)) (bu 257) .leaf) (bj 29 3 1 30 l1.length com1 true 31) (n0 (aE 0 1 2))))) (nW 3 a (L.length - a) o (some cp) now cnt) (n2 (n2 (n2 (n2 (n0 (aE 0 1 2)) (aE 0 1 2) .leaf) (bj 25 3 0 26 l0.length com0 false 27) (n0 (bm true 38 3))) (eX 7 3 8 9 0 10 11) (n2 (n2 (n0 (aO l2)) (bj 35 3 2 36 l2.length com2 true 37) .leaf) (aE 0 1 2) (n0 (aE 0 1 2)))) (QW true) (n2 (n2 (n2 (n0 (aE 0 1 2)) (bm true 34 3) .leaf) (aE 0 1 2) (n0 (aO l0))) (gJ 19 3 20 21 t2 2 22 23 24) (n2 (n2 (n0 (aE 0 1 2)) (aE 0 1 2) .leaf) (hQ ham aw hat av) (n0 (aO l1))))))
noncomputable def aie (l0:List Ke) (com0 g0 g1 g2:Int) (l1:List Ke) (com1 t u:Int) (hq:Value) (tq:List Ke) (hcm:Value) (cm:List Int) (hct:Value) (ct:List Ke) (ham:Value) (aw:List Int) (hat:Value) (av l2:List Ke) (com2 t2:Int) (hm2:Value) (m2:List Int) (ht2:Value) (a2:List Ke) (L:List Fx) (a o cp:Nat) (now cnt:Int):T:=(n2 (n2 (n2 (n2 (n2 (n0 (cP 0 0 1 0 2 0)) (xw 32 3 1 33 hq tq hcm cm hct ct) .leaf) (aE 0 1 2) (n0 (bL 1))) (nV L) (n2 (n2 (n0 (aE 0 1 2)) (aE 0 1 2) .leaf) (bm true 28 3) (n0 (cP 0 g0 1 g1 2 g2)))) QV (n2 (n2 (n2 (n0 (rr 2 3)) (bL 1) .leaf) (bu 0) (n0 (aE 0 1 2))) (jR 12 3 13 14 15 t 16 17 u 18) (n2 (n2 (n0 (cP 0 0 1 0 2 0)) (hQ hm2 m2 ht2 a2) .leaf) (bj 29 3 1 30 l1.length com1 true 31) (n0 (aE 0 1 2))))) (nW 3 a (L.length - a) o (some cp) now cnt) (n2 (n2 (n2 (n2 (n0 (aE 0 1 2)) (aE 0 1 2) .leaf) (bj 25 3 0 26 l0.length com0 false 27) (n0 (bm true 38 3))) (eX 7 3 8 9 0 10 11) (n2 (n2 (n0 (aO l2)) (bj 35 3 2 36 l2.length com2 true 37) .leaf) (aE 0 1 2) (n0 (aE 0 1 2)))) (QW true) (n2 (n2 (n2 (n0 (aE 0 1 2)) (bm true 34 3) .leaf) (aE 0 1 2) (n0 (aO l0))) (gJ 19 3 20 21 t2 2 22 23 24) (n2 (n2 (n0 (aE 0 1 2)) (aE 0 1 2) .leaf) (hQ ham aw hat av) (n0 (aO l1))))))
noncomputable def WP (l0:List Ke) (com0 g0 g1 g2:Int) (l1:List Ke) (com1 b1 u c0 c1:Int) (l2:List Ke) (com2 t2:Int) (hm2:Value) (m2:List Int) (ht2:Value) (a2:List Ke) (L:List Fx) (a o cp:Nat) (now cnt:Int):T:=(n2 (n2 (n2 (n2 (n2 (n0 (aE 0 1 2)) (aE 0 1 2) .leaf) (aE 0 1 2) (n0 (bm true 36 3))) (nV L) (n2 (n2 (n0 (cP 0 0 1 0 2 0)) (bj 33 3 2 34 l2.length com2 true 35) .leaf) (bm true 27 3) (n0 (aE 0 1 2)))) QV (n2 (n2 (n2 (n0 (aE 0 1 2)) (nX 31 3 32 2) .leaf) (bu 0) (n0 (aO l0))) (nU 12 2 13 14 1 15 3 16 u 17) (n2 (n0 (aE 0 1 2)) (ig 28 2 1 29 l1.length b1 com1 30) (n0 (aO l1))))) (nW 3 a (L.length - a) o (some cp) now cnt) (n2 (n2 (n2 (n2 (n0 gK) (bL 0) .leaf) (bj 24 3 0 25 l0.length com0 false 26) (n0 (aE 0 1 2))) (eX 7 3 8 9 0 10 11) (n2 (n2 (n0 (aE 0 1 2)) (hQ hm2 m2 ht2 a2) .leaf) gK (n0 gK))) (QW true) (n2 (n2 (n2 (n0 (aO l2)) (aE 0 1 2) .leaf) (aE 0 1 2) (n0 (cP 0 g0 1 g1 2 g2))) (gJ 18 3 19 20 t2 2 21 22 23) (n2 (n0 (bL 1)) (bu 0) (n0 (Dq c0 c1))))))
noncomputable def WO (l0:List Ke) (com0 g0 g1 g2:Int) (l1:List Ke) (com1 b1 u c0 c1:Int) (l2:List Ke) (com2 b2 u2 d2_0 d2_1:Int) (L:List Fx) (a o cp:Nat) (now cnt:Int) (k0 k1 k2 k3:Nat):T:=(n2 (n2 (n2 (n2 (n2 (n0 (aE 0 1 2)) (aE 0 1 2) .leaf) (aE 0 1 2) (n0 (nX 36 3 37 2))) (nV L) (n2 (n2 (n0 (Dq d2_0 d2_1)) (ig 33 2 2 34 k3 b2 com2 35) .leaf) (bm true 27 3) (n0 (aE 0 1 2)))) QV (n2 (n2 (n2 (n0 gK) (nX 31 3 32 2) .leaf) (bu 0) (n0 (aO l0))) (nU 12 2 13 14 1 15 3 16 u 17) (n2 (n2 (n0 gK) (aE 0 1 2) .leaf) (ig 28 2 1 29 k2 b1 com1 30) (n0 (aO l1))))) (nW 3 a k0 o (some cp) now cnt) (n2 (n2 (n2 (n2 (n0 gK) (bL 0) .leaf) (bj 24 3 0 25 k1 com0 false 26) (n0 (aE 0 1 2))) (eX 7 3 8 9 0 10 11) (n2 (n2 (n0 (aE 0 1 2)) (bu 0) .leaf) gK (n0 gK))) (QW true) (n2 (n2 (n2 (n0 (aO l2)) gK .leaf) (aE 0 1 2) (n0 (cP 0 g0 1 g1 2 g2))) (nU 18 2 19 20 2 21 3 22 u2 23) (n2 (n0 (bL 0)) (bu 0) (n0 (Dq c0 c1))))))
noncomputable abbrev fi (l0:List Ke) (com0 g0 g1 g2:Int) (l1:List Ke) (com1 b1 u c0 c1:Int) (l2:List Ke) (com2 b2 u2 d2_0 d2_1:Int) (L:List Fx) (a o cp:Nat) (now cnt:Int):T:=WO l0 com0 g0 g1 g2 l1 com1 b1 u c0 c1 l2 com2 b2 u2 d2_0 d2_1 L a o cp now cnt (L.length - a) l0.length l1.length l2.length
def adO:XF:=DB
theorem adN:bN Tryz.prog 28 adO=true:=by kernel_rfl
structure nD where (l0:List Ke) (com0 g0 g1 g2:Int) (l1:List Ke) (com1:Int) (l2:List Ke) (com2:Int) (L:List Fx) (a o cp:Nat) (now cnt:Int)
structure Ue where (hq:Value) (tq:List Ke) (L:List Fx) (a o cp:Nat)
def wz (p:nD) (r:Ue):Prop:=r.tq=p.l1∧Ap r.L r.a p.L p.a [(⟨1,0,5,1,0,0,257,0,(.slice none 0 0),[],(.slice none 0 0),[],(.slice none 0 0),[],(.slice none 0 0),[]⟩:Fx),(⟨1,2,5,1,0,0,257,0,(.slice none 0 0),[],(.slice none 0 0),[],(.slice none 0 0),[],(.slice none 0 0),[]⟩:Fx)]
noncomputable def aig (p:nD):IE:=([.ptr 0 0,.int 0 (.ofNat 1)],(ag4 p.l0 p.com0 p.g0 p.g1 p.g2 p.l1 p.com1 p.l2 p.com2 p.L p.a p.o p.cp p.now p.cnt),36)
noncomputable def adE (p:nD) (K:KE) (r:Ue):Bool:=K (.tup []) (NE p.l0 p.com0 p.g0 p.g1 p.g2 p.l1 p.com1 (p.now+1) (p.now+1+10) r.hq r.tq p.l2 p.com2 r.L r.a r.o r.cp (p.now+1) p.cnt) 39
noncomputable def YI (p:nD) (K:KE):Bool:=ae fun r=>iP (wz p r) (adE p K r) true
def Gw (p:nD):Prop:=Bs p.now p.L p.a∧1≤p.now∧p.l1.length≤400
theorem OG {p:nD} {K:KE} (hK:YI p K=true) {r:Ue} (h:wz p r):adE p K r=true:=ax h (aq hK r)
theorem akA:Vf Gw YI 1 RB aJ adO aig:=by
 intro p K hpre hK
 refine Eq.trans (b:=(mP (aI 0 (p.now+1)) (ay aii Gy DN ⟨p.l1,p.com1,p.now+1⟩ fun p1 r1=>iP (((p.L.length - p.a:Nat):Int)<(400:Int)) (mE (.psub 3 33 p.a (p.L.length - p.a) p.o (some p.cp)) (mP (p.a+(p.L.length - p.a)=p.L.length) (aM fun m1:List Fx=>mP (bg (m1.map dA) (QR 1 0 5 [])) (mP (bQ 232 (p.L.length+m1.length)) (ae fun L1:List Fx=>ae fun d1:Nat=>ae fun o1:Nat=>ae fun u1:Nat=>iP (d1≤L1.length∧L1.length≤p.L.length+m1.length∧L1.drop d1=p.L.drop p.a++m1) (iP (((L1.length - d1:Nat):Int)<(400:Int)) (mE (.psub 52 33 d1 (L1.length - d1) o1 (some u1)) (mP (d1+(L1.length - d1)=L1.length) (aM fun m2:List Fx=>mP (bg (m2.map dA) (QR 1 2 5 [])) (mP (bQ 232 (L1.length+m2.length)) (ae fun L2:List Fx=>ae fun d2:Nat=>ae fun o2:Nat=>ae fun u2:Nat=>iP (d2≤L2.length∧L2.length≤L1.length+m2.length∧L2.drop d2=L1.drop d1++m2) (K (.tup []) (NE p.l0 p.com0 p.g0 p.g1 p.g2 p1.l1 p1.com1 p1.now (p1.now+10) r1.hq r1.tq p.l2 p.com2 L2 d2 o2 u2 (p.now+1) p.cnt) 39) true))))) (K (.tup []) (NE p.l0 p.com0 p.g0 p.g1 p.g2 p1.l1 p1.com1 p1.now (p1.now+10) r1.hq r1.tq p.l2 p.com2 L1 d1 o1 u1 (p.now+1) p.cnt) 39)) true))))) (K (.tup []) (NE p.l0 p.com0 p.g0 p.g1 p.g2 p1.l1 p1.com1 p1.now (p1.now+10) r1.hq r1.tq p.l2 p.com2 p.L p.a p.o p.cp (p.now+1) p.cnt) 39)))) (by kernel_rfl) ?_
 dsimp only[Gw]at hpre
 obtain⟨⟨n0,n1,n2,n3,n4⟩,hx⟩:=hpre
 obtain⟨hx1,hx2⟩:=hx
 refine dc ?_
 refine aF (by(try dsimp only[Gy]);repeat(first|assumption|omega|apply And.intro)) fun r1 hi1=> ?_
 dsimp only[DN]at hi1 ⊢
 have hv:=hi1
 apply iI<;>intro hc2
 refine aH (aX ?_)
 refine aR ([⟨1,0,5,1,0,0,257,0,(.slice none 0 0),[],(.slice none 0 0),[],(.slice none 0 0),[],(.slice none 0 0),[]⟩]:List Fx) ?_
 refine fv (eU ?_)
 refine ac fun L1=> ?_
 refine ac fun d1=> ?_
 refine ac fun o1=> ?_
 refine ac fun u1=> ?_
 refine iJ fun hi3=> ?_
 have apL1:=fw hi3
 have lnL1:=apL1.len
 apply iI<;>intro hc4
 refine aH (aX ?_)
 refine aR ([⟨1,2,5,1,0,0,257,0,(.slice none 0 0),[],(.slice none 0 0),[],(.slice none 0 0),[],(.slice none 0 0),[]⟩]:List Fx) ?_
 refine fv (eU ?_)
 refine ac fun L2=> ?_
 refine ac fun d2=> ?_
 refine ac fun o2=> ?_
 refine ac fun u2=> ?_
 refine iJ fun hi5=> ?_
 have apL2:=fw hi5
 have lnL2:=apL2.len
 exact OG (r:=⟨r1.hq,r1.tq,L2,d2,o2,u2⟩) hK (by dsimp only[wz]<;>(first|(exfalso;omega)|(exfalso;simp only[apw,apy]at*;omega)|(have ap:=(apL1).trans apL2;(try simp only[apC,apD]at ap);exact⟨by assumption,ap⟩)))
 exact OG (r:=⟨r1.hq,r1.tq,L1,d1,o1,u1⟩) hK (by dsimp only[wz]<;>(first|(exfalso;omega)|(exfalso;simp only[apw,apy]at*;omega)|(have ap:=apL1;(try simp only[apC,apD]at ap);exact⟨by assumption,ap⟩)))
 exact OG (r:=⟨r1.hq,r1.tq,p.L,p.a,p.o,p.cp⟩) hK (by dsimp only[wz]<;>(first|(exfalso;omega)|(exfalso;simp only[apw,apy]at*;omega)|(have ap:=Ap.nil (by omega);(try simp only[apC,apD]at ap);exact⟨by assumption,ap⟩)))
noncomputable def nc_zt3:EE 28 1:=bA (fun us M=>Nat.beq (zC M 5 1) 1) (nE adN akA) eS
noncomputable def YR:NN:=bB RB nc_zt3.2 [(0,4),(1,1)] (fun us=>Nat.beq (gi us 1) 1)
def rM:XF:=DA
theorem nY:bN Tryz.prog 29 rM=true:=by kernel_rfl
structure vD where (l0:List Ke) (com0 g0 g1 g2:Int) (l1:List Ke) (com1 t u:Int) (hq:Value) (tq l2:List Ke) (com2:Int) (L:List Fx) (a o cp:Nat) (now cnt x_n x_c:Int) (x_vh:Value) (x_vl:List Int) (x_mh:Value) (x_ml:List Int) (x_h:Value) (x_l:List Ke) (x_th:Value) (x_tl:List Ke)
structure eJ where (L:List Fx) (a o cp:Nat)
def rA (p:vD) (r:eJ):Prop:=∃h,Ap r.L r.a p.L p.a [(⟨2,1,8,1,0,0,257,0,(.slice none 0 0),[],(.slice none 0 0),[],h,p.l2,(.slice none 0 0),[]⟩:Fx)]
noncomputable def ZA (p:vD):IE:=([.ptr 0 0,hU 1 2 5 1 p.x_n p.x_c 257 [] 0 p.x_vh p.x_vl p.x_mh p.x_ml p.x_h p.x_l p.x_th p.x_tl],(NE p.l0 p.com0 p.g0 p.g1 p.g2 p.l1 p.com1 p.t p.u p.hq p.tq p.l2 p.com2 p.L p.a p.o p.cp p.now p.cnt),39)
noncomputable def Vp (p:vD) (K:KE) (r:eJ):Bool:=K (.tup []) (Ub p.l0 p.com0 p.g0 p.g1 p.g2 p.l1 p.com1 p.t p.u p.hq p.tq p.l2 p.com2 p.now r.L r.a r.o r.cp p.now p.cnt) 39
noncomputable def Qk (p:vD) (K:KE):Bool:=ae fun r=>iP (rA p r) (Vp p K r) true
def yz (p:vD):Prop:=Bs p.now p.L p.a∧p.x_vl=[]∧p.x_ml=[]∧p.x_l=[]∧p.x_tl=[]∧p.x_n=0∧p.x_c=0∧p.l2.length≤400
theorem Sj {p:vD} {K:KE} (hK:Qk p K=true) {r:eJ} (h:rA p r):Vp p K r=true:=ax h (aq hK r)
theorem aeP:Vf yz Qk 1 YR aJ rM ZA:=by
 intro p K hpre hK
 refine Eq.trans (b:=(mE (.int 0 p.now) (aa (qL [qI 3 p.x_n,qI 3 p.x_c,qY ((.imm p.x_vh 2 Int p.x_vl aG)),qY ((.imm p.x_mh 2 Int p.x_ml aG)),qY ((.imm p.x_h 18 Ke p.x_l au)),qY ((.imm p.x_th 18 Ke p.x_tl au))]) (ay ZR yR wJ ⟨p.l2,p.com2,p.x_n,p.x_c,p.x_vh,p.x_vl,p.x_mh,p.x_ml,p.x_h,p.x_l,p.x_th,p.x_tl,p.now⟩ fun p1 r1=>iP (((p.L.length - p.a:Nat):Int)<(400:Int)) (mE (.psub 3 33 p.a (p.L.length - p.a) p.o (some p.cp)) (mP (p.a+(p.L.length - p.a)=p.L.length) (aM fun m1:List Fx=>mP (bg (m1.map dA) (o_L 2 [] r1.h r1.e)) (mP (bQ 232 (p.L.length+m1.length)) (ae fun L1:List Fx=>ae fun d1:Nat=>ae fun o1:Nat=>ae fun u1:Nat=>iP (d1≤L1.length∧L1.length≤p.L.length+m1.length∧L1.drop d1=p.L.drop p.a++m1) (K (.tup []) (Ub p.l0 p.com0 p.g0 p.g1 p.g2 p.l1 p.com1 p.t p.u p.hq p.tq p1.l2 p1.com2 p1.now L1 d1 o1 u1 p.now p.cnt) 39) true))))) (K (.tup []) (Ub p.l0 p.com0 p.g0 p.g1 p.g2 p.l1 p.com1 p.t p.u p.hq p.tq p1.l2 p1.com2 p1.now p.L p.a p.o p.cp p.now p.cnt) 39))))) (by kernel_rfl) ?_
 dsimp only[yz]at hpre
 obtain⟨⟨n0,n1,n2,n3,n4⟩,hx⟩:=hpre
 obtain⟨hx1,hx2,hx3,hx4,hx5,hx6,hx7⟩:=hx
 refine aH ?_
 refine cq ?_
 refine aF (by(try dsimp only[yR]);repeat(first|assumption|omega|apply And.intro)) fun r1 hi1=> ?_
 dsimp only[wJ]at hi1 ⊢
 have hv:=hi1
 apply iI<;>intro hc2
 refine aH (aX ?_)
 refine aR ([⟨2,1,8,1,0,0,257,0,(.slice none 0 0),[],(.slice none 0 0),[],r1.h,r1.e,(.slice none 0 0),[]⟩]:List Fx) ?_
 refine fv (eU ?_)
 refine ac fun L1=> ?_
 refine ac fun d1=> ?_
 refine ac fun o1=> ?_
 refine ac fun u1=> ?_
 refine iJ fun hi3=> ?_
 have apL1:=fw hi3
 have lnL1:=apL1.len
 exact Sj (r:=⟨L1,d1,o1,u1⟩) hK (by dsimp only[rA]<;>(first|(exfalso;omega)|(exfalso;simp only[apw,apy]at*;omega)|(have ap:=apL1;(try simp only[apC,apD]at ap);(first|(rw[hv]at ap)|(rw[hv.1]at ap));exact⟨_,ap⟩)))
 exact Sj (r:=⟨p.L,p.a,p.o,p.cp⟩) hK (by dsimp only[rA]<;>(first|(exfalso;omega)|(exfalso;simp only[apw,apy]at*;omega)|(have ap:=Ap.nil (by omega);(try simp only[apC,apD]at ap);(first|(rw[hv]at ap)|(rw[hv.1]at ap));exact⟨_,ap⟩)))
noncomputable def Rc:NN:=bB YR (nE nY aeP) [(0,4),(1,15)] (fun us=>aA (aA (Nat.beq (aC us 1 0) 1) (Nat.beq (aC us 1 1) 2)) (Nat.beq (aC us 1 2) 5))
structure vA where (l0:List Ke) (com0 g0 g1 g2:Int) (l1:List Ke) (com1 t u:Int) (hq:Value) (tq l2:List Ke) (com2 t2:Int) (L:List Fx) (a o cp:Nat) (now cnt x_n x_c:Int) (x_vh:Value) (x_vl:List Int) (x_mh:Value) (x_ml:List Int) (x_h:Value) (x_l:List Ke) (x_th:Value) (x_tl:List Ke)
structure Hf where (hcm:Value) (cm:List Int) (hct:Value) (ct:List Ke) (ham:Value) (aw:List Int) (hat:Value) (av:List Ke) (L:List Fx) (a o cp:Nat)
def oJ (p:vA) (r:Hf):Prop:=r.cm=[(1:Int),(2:Int)]∧r.ct=p.tq∧∃hm ht,Ap r.L r.a p.L p.a [(⟨1,0,9,1,0,0,257,0,(.slice none 0 0),[],hm,[(1:Int),(2:Int)],(.slice none 0 0),[],ht,p.tq⟩:Fx),(⟨1,2,9,1,0,0,257,0,(.slice none 0 0),[],hm,[(1:Int),(2:Int)],(.slice none 0 0),[],ht,p.tq⟩:Fx)]
noncomputable def Zx (p:vA):IE:=([.ptr 0 0,hU 2 1 8 1 p.x_n p.x_c 257 [] 0 p.x_vh p.x_vl p.x_mh p.x_ml p.x_h p.x_l p.x_th p.x_tl],(Ub p.l0 p.com0 p.g0 p.g1 p.g2 p.l1 p.com1 p.t p.u p.hq p.tq p.l2 p.com2 p.t2 p.L p.a p.o p.cp p.now p.cnt),39)
noncomputable def xD (p:vA) (K:KE) (r:Hf):Bool:=K (.tup []) (aid p.l0 p.com0 p.g0 p.g1 p.g2 p.l1 p.com1 p.t p.u p.hq p.tq r.hcm r.cm r.hct r.ct r.ham r.aw r.hat r.av p.l2 p.com2 p.t2 r.L r.a r.o r.cp p.now p.cnt) 39
noncomputable def Qh (p:vA) (K:KE):Bool:=ae fun r=>iP (oJ p r) (xD p K r) true
def yw (p:vA):Prop:=Bs p.now p.L p.a∧p.x_vl=[]∧p.x_ml=[]∧p.x_tl=[]∧p.x_n=0∧p.x_c=0∧p.x_l.length=p.tq.length∧bF p.x_l∧p.x_l.length≤400
theorem EQ {p:vA} {K:KE} (hK:Qh p K=true) {r:Hf} (h:oJ p r):xD p K r=true:=ax h (aq hK r)
theorem aeM:Vf yw Qh 1 Rc aJ rM Zx:=by
 intro p K hpre hK
 refine Eq.trans (b:=(mE (.int 0 p.now) (aa (qL [qI 3 p.x_n,qI 3 p.x_c,qY ((.imm p.x_vh 2 Int p.x_vl aG)),qY ((.imm p.x_mh 2 Int p.x_ml aG)),qY ((.imm p.x_h 18 Ke p.x_l au)),qY ((.imm p.x_th 18 Ke p.x_tl au))]) (ay ZO yO wG ⟨p.l1,p.com1,p.t,p.u,p.hq,p.tq,p.x_n,p.x_c,p.x_vh,p.x_vl,p.x_mh,p.x_ml,p.x_h,p.x_l,p.x_th,p.x_tl,p.now⟩ fun p1 r1=>iP (((p.L.length - p.a:Nat):Int)<(400:Int)) (mE (.psub 3 33 p.a (p.L.length - p.a) p.o (some p.cp)) (mP (p.a+(p.L.length - p.a)=p.L.length) (aM fun m1:List Fx=>mP (bg (m1.map dA) (o_C 0 [] r1.hm r1.mm r1.ht r1.tt)) (mP (bQ 232 (p.L.length+m1.length)) (ae fun L1:List Fx=>ae fun d1:Nat=>ae fun o1:Nat=>ae fun u1:Nat=>iP (d1≤L1.length∧L1.length≤p.L.length+m1.length∧L1.drop d1=p.L.drop p.a++m1) (iP (((L1.length - d1:Nat):Int)<(400:Int)) (mE (.psub 57 33 d1 (L1.length - d1) o1 (some u1)) (mP (d1+(L1.length - d1)=L1.length) (aM fun m2:List Fx=>mP (bg (m2.map dA) (o_C 2 [] r1.hm r1.mm r1.ht r1.tt)) (mP (bQ 232 (L1.length+m2.length)) (ae fun L2:List Fx=>ae fun d2:Nat=>ae fun o2:Nat=>ae fun u2:Nat=>iP (d2≤L2.length∧L2.length≤L1.length+m2.length∧L2.drop d2=L1.drop d1++m2) (xD {p with l1:=p1.l1,com1:=p1.com1,t:=p1.t,u:=p1.u,hq:=p1.hq,tq:=p1.tq} K ⟨r1.hcm,r1.cm,r1.hct,r1.ct,r1.ham,r1.aw,r1.hat,r1.av,L2,d2,o2,u2⟩) true))))) (xD {p with l1:=p1.l1,com1:=p1.com1,t:=p1.t,u:=p1.u,hq:=p1.hq,tq:=p1.tq} K ⟨r1.hcm,r1.cm,r1.hct,r1.ct,r1.ham,r1.aw,r1.hat,r1.av,L1,d1,o1,u1⟩)) true))))) (xD {p with l1:=p1.l1,com1:=p1.com1,t:=p1.t,u:=p1.u,hq:=p1.hq,tq:=p1.tq} K ⟨r1.hcm,r1.cm,r1.hct,r1.ct,r1.ham,r1.aw,r1.hat,r1.av,p.L,p.a,p.o,p.cp⟩))))) (by kernel_rfl) ?_
 dsimp only[yw]at hpre
 obtain⟨⟨n0,n1,n2,n3,n4⟩,hx⟩:=hpre
 obtain⟨hx1,hx2,hx3,hx4,hx5,hx6,hx7,hx8⟩:=hx
 refine aH ?_
 refine cq ?_
 refine aF (by(try dsimp only[yO]);repeat(first|assumption|omega|apply And.intro)) fun r1 hi1=> ?_
 dsimp only[wG]at hi1 ⊢
 have hv:=hi1
 apply iI<;>intro hc2
 refine aH (aX ?_)
 refine aR ([⟨1,0,9,1,0,0,257,0,(.slice none 0 0),[],r1.hm,r1.mm,(.slice none 0 0),[],r1.ht,r1.tt⟩]:List Fx) ?_
 refine fv (eU ?_)
 refine ac fun L1=> ?_
 refine ac fun d1=> ?_
 refine ac fun o1=> ?_
 refine ac fun u1=> ?_
 refine iJ fun hi3=> ?_
 have apL1:=fw hi3
 have lnL1:=apL1.len
 apply iI<;>intro hc4
 refine aH (aX ?_)
 refine aR ([⟨1,2,9,1,0,0,257,0,(.slice none 0 0),[],r1.hm,r1.mm,(.slice none 0 0),[],r1.ht,r1.tt⟩]:List Fx) ?_
 refine fv (eU ?_)
 refine ac fun L2=> ?_
 refine ac fun d2=> ?_
 refine ac fun o2=> ?_
 refine ac fun u2=> ?_
 refine iJ fun hi5=> ?_
 have apL2:=fw hi5
 have lnL2:=apL2.len
 exact EQ (p:=p) hK (by dsimp only[oJ]<;>(first|(exfalso;omega)|(exfalso;simp only[apw,apy]at*;omega)|(have ap:=(apL1).trans apL2;(try simp only[apC,apD]at ap);(rw[hv.2.2.1,hv.2.2.2]at ap;exact⟨hv.1,hv.2.1,_,_,ap⟩))))
 exact EQ (p:=p) hK (by dsimp only[oJ]<;>(first|(exfalso;omega)|(exfalso;simp only[apw,apy]at*;omega)|(have ap:=apL1;(try simp only[apC,apD]at ap);(rw[hv.2.2.1,hv.2.2.2]at ap;exact⟨hv.1,hv.2.1,_,_,ap⟩))))
 exact EQ (p:=p) hK (by dsimp only[oJ]<;>(first|(exfalso;omega)|(exfalso;simp only[apw,apy]at*;omega)|(have ap:=Ap.nil (by omega);(try simp only[apC,apD]at ap);(rw[hv.2.2.1,hv.2.2.2]at ap;exact⟨hv.1,hv.2.1,_,_,ap⟩))))
noncomputable def QZ:NN:=bB Rc (nE nY aeM) [(0,4),(1,15)] (fun us=>aA (aA (Nat.beq (aC us 1 0) 2) (Nat.beq (aC us 1 1) 1)) (Nat.beq (aC us 1 2) 8))
structure vG where (l0:List Ke) (com0 g0 g1 g2:Int) (l1:List Ke) (com1 t u:Int) (hq:Value) (tq:List Ke) (hcm:Value) (cm:List Int) (hct:Value) (ct:List Ke) (ham:Value) (aw:List Int) (hat:Value) (av l2:List Ke) (com2 t2:Int) (L:List Fx) (a o cp:Nat) (now cnt x_n x_c:Int) (x_vh:Value) (x_vl:List Int) (x_mh:Value) (x_ml:List Int) (x_h:Value) (x_l:List Ke) (x_th:Value) (x_tl:List Ke)
structure Hg where (hm2:Value) (m2:List Int) (ht2:Value) (a2:List Ke) (L:List Fx) (a o cp:Nat)
def rD (p:vG) (r:Hg):Prop:=Ap r.L r.a p.L p.a [(⟨2,1,6,1,0,0,257,0,(.slice none 0 0),[],(.slice none 0 0),[],(.slice none 0 0),[],(.slice none 0 0),[]⟩:Fx)]
noncomputable def ZD (p:vG):IE:=([.ptr 0 0,hU 1 2 9 1 p.x_n p.x_c 257 [] 0 p.x_vh p.x_vl p.x_mh p.x_ml p.x_h p.x_l p.x_th p.x_tl],(aid p.l0 p.com0 p.g0 p.g1 p.g2 p.l1 p.com1 p.t p.u p.hq p.tq p.hcm p.cm p.hct p.ct p.ham p.aw p.hat p.av p.l2 p.com2 p.t2 p.L p.a p.o p.cp p.now p.cnt),39)
noncomputable def Ch (p:vG) (K:KE) (r:Hg):Bool:=K (.tup []) (aie p.l0 p.com0 p.g0 p.g1 p.g2 p.l1 p.com1 p.t p.u p.hq p.tq p.hcm p.cm p.hct p.ct p.ham p.aw p.hat p.av p.l2 p.com2 p.t2 r.hm2 r.m2 r.ht2 r.a2 r.L r.a r.o r.cp p.now p.cnt) 39
noncomputable def Qn (p:vG) (K:KE):Bool:=ae fun r=>iP (rD p r) (Ch p K r) true
def yC (p:vG):Prop:=Bs p.now p.L p.a∧p.x_vl=[]∧p.x_l=[]∧p.x_n=0∧p.x_c=0∧p.x_ml=[(1:Int),(2:Int)]∧bF p.x_tl∧p.x_tl.length≤400
theorem Sm {p:vG} {K:KE} (hK:Qn p K=true) {r:Hg} (h:rD p r):Ch p K r=true:=ax h (aq hK r)
theorem aeS:Vf yC Qn 1 QZ aJ rM ZD:=by
 intro p K hpre hK
 refine Eq.trans (b:=(mE (.int 0 p.now) (aa (qL [qI 3 p.x_n,qI 3 p.x_c,qY ((.imm p.x_vh 2 Int p.x_vl aG)),qY ((.imm p.x_mh 2 Int p.x_ml aG)),qY ((.imm p.x_h 18 Ke p.x_l au)),qY ((.imm p.x_th 18 Ke p.x_tl au))]) (aL ZU yU ⟨p.l2,p.com2,p.t2,p.x_n,p.x_c,p.x_vh,p.x_vl,p.x_mh,p.x_ml,p.x_h,p.x_l,p.x_th,p.x_tl,p.now⟩ fun p1=>ae fun r1:Hk=>iP (((p.L.length - p.a:Nat):Int)<(400:Int)) (mE (.psub 3 33 p.a (p.L.length - p.a) p.o (some p.cp)) (mP (p.a+(p.L.length - p.a)=p.L.length) (aM fun m1:List Fx=>mP (bg (m1.map dA) (QR 2 1 6 [])) (mP (bQ 232 (p.L.length+m1.length)) (ae fun L1:List Fx=>ae fun d1:Nat=>ae fun o1:Nat=>ae fun u1:Nat=>iP (d1≤L1.length∧L1.length≤p.L.length+m1.length∧L1.drop d1=p.L.drop p.a++m1) (Ch {p with l2:=p1.l2,com2:=p1.com2,t2:=p1.t2} K ⟨r1.hm2,r1.m2,r1.ht2,r1.a2,L1,d1,o1,u1⟩) true))))) (Ch {p with l2:=p1.l2,com2:=p1.com2,t2:=p1.t2} K ⟨r1.hm2,r1.m2,r1.ht2,r1.a2,p.L,p.a,p.o,p.cp⟩))))) (by kernel_rfl) ?_
 dsimp only[yC]at hpre
 obtain⟨⟨n0,n1,n2,n3,n4⟩,hx⟩:=hpre
 obtain⟨hx1,hx2,hx3,hx4,hx5,hx6,hx7⟩:=hx
 refine aH ?_
 refine cq ?_
 refine aV (by(try dsimp only[yU]);repeat(first|assumption|omega|apply And.intro)) ?_
 dsimp only
 refine ac fun r1=> ?_
 apply iI<;>intro hc1
 refine aH (aX ?_)
 refine aR ([⟨2,1,6,1,0,0,257,0,(.slice none 0 0),[],(.slice none 0 0),[],(.slice none 0 0),[],(.slice none 0 0),[]⟩]:List Fx) ?_
 refine fv (eU ?_)
 refine ac fun L1=> ?_
 refine ac fun d1=> ?_
 refine ac fun o1=> ?_
 refine ac fun u1=> ?_
 refine iJ fun hi2=> ?_
 have apL1:=fw hi2
 have lnL1:=apL1.len
 exact Sm (p:=p) hK (by dsimp only[rD]<;>(first|(exfalso;omega)|(exfalso;simp only[apw,apy]at*;omega)|(have ap:=apL1;(try simp only[apC,apD]at ap);exact ap)))
 exact Sm (p:=p) hK (by dsimp only[rD]<;>(first|(exfalso;omega)|(exfalso;simp only[apw,apy]at*;omega)|(have ap:=Ap.nil (by omega);(try simp only[apC,apD]at ap);exact ap)))
noncomputable def Rf:NN:=bB QZ (nE nY aeS) [(0,4),(1,15)] (fun us=>aA (aA (Nat.beq (aC us 1 0) 1) (Nat.beq (aC us 1 1) 2)) (Nat.beq (aC us 1 2) 9))
structure vN where (l0:List Ke) (com0 g0 g1 g2:Int) (l1:List Ke) (com1 t u:Int) (hq:Value) (tq:List Ke) (hcm:Value) (cm:List Int) (hct:Value) (ct:List Ke) (ham:Value) (aw:List Int) (hat:Value) (av l2:List Ke) (com2 t2:Int) (hm2:Value) (m2:List Int) (ht2:Value) (a2:List Ke) (L:List Fx) (a o cp:Nat) (now cnt x_n x_c:Int) (x_vh:Value) (x_vl:List Int) (x_mh:Value) (x_ml:List Int) (x_h:Value) (x_l:List Ke) (x_th:Value) (x_tl:List Ke)
structure Hi where (l1:List Ke) (L:List Fx) (a o cp:Nat) (z:Int)
def oL (p:vN) (r:Hi):Prop:=r.l1=p.l1∧r.z=(p.l1.length:Int)∧∃hm h,Ap r.L r.a p.L p.a [(⟨1,0,10,0,0,0,0,2,hm,[(1:Int),(2:Int)],(.slice none 0 0),[],h,p.l1,(.slice none 0 0),[]⟩:Fx),(⟨1,2,10,0,0,0,0,2,hm,[(1:Int),(2:Int)],(.slice none 0 0),[],h,p.l1,(.slice none 0 0),[]⟩:Fx)]
noncomputable def ZL (p:vN):IE:=([.ptr 0 0,hU 2 1 6 1 p.x_n p.x_c 257 [] 0 p.x_vh p.x_vl p.x_mh p.x_ml p.x_h p.x_l p.x_th p.x_tl],(aie p.l0 p.com0 p.g0 p.g1 p.g2 p.l1 p.com1 p.t p.u p.hq p.tq p.hcm p.cm p.hct p.ct p.ham p.aw p.hat p.av p.l2 p.com2 p.t2 p.hm2 p.m2 p.ht2 p.a2 p.L p.a p.o p.cp p.now p.cnt),39)
noncomputable def Vu (p:vN) (K:KE) (r:Hi):Bool:=K (.tup []) (WP p.l0 p.com0 p.g0 p.g1 p.g2 r.l1 r.z r.z (p.now+2) r.z r.z p.l2 p.com2 p.t2 p.hm2 p.m2 p.ht2 p.a2 r.L r.a r.o r.cp p.now p.cnt) 37
noncomputable def Qx (p:vN) (K:KE):Bool:=ae fun r=>iP (oL p r) (Vu p K r) true
def yK (p:vN):Prop:=Bs p.now p.L p.a∧p.x_vl=[]∧p.x_ml=[]∧p.x_l=[]∧p.x_tl=[]∧p.x_n=0∧p.x_c=0∧p.l1.length≤400∧p.ct=p.l1∧p.cm=[(1:Int),(2:Int)]
theorem EV {p:vN} {K:KE} (hK:Qx p K=true) {r:Hi} (h:oL p r):Vu p K r=true:=ax h (aq hK r)
theorem ae2:Vf yK Qx 1 Rf aJ rM ZL:=by
 intro p K hpre hK
 refine Eq.trans (b:=(mE (.int 0 p.now) (aa (qL [qI 3 p.x_n,qI 3 p.x_c,qY ((.imm p.x_vh 2 Int p.x_vl aG)),qY ((.imm p.x_mh 2 Int p.x_ml aG)),qY ((.imm p.x_h 18 Ke p.x_l au)),qY ((.imm p.x_th 18 Ke p.x_tl au))]) (ay aaa za wP ⟨p.l1,p.com1,p.t,p.u,p.hq,p.tq,p.hcm,p.cm,p.hct,p.ct,p.ham,p.aw,p.hat,p.av,p.x_n,p.x_c,p.x_vh,p.x_vl,p.x_mh,p.x_ml,p.x_h,p.x_l,p.x_th,p.x_tl,p.now⟩ fun p1 r1=>iP (((p.L.length - p.a:Nat):Int)<(400:Int)) (mE (.psub 3 33 p.a (p.L.length - p.a) p.o (some p.cp)) (mP (p.a+(p.L.length - p.a)=p.L.length) (aM fun m1:List Fx=>mP (bg (m1.map dA) (o_D 0 [] r1.hm r1.mm r1.h r1.e)) (mP (bQ 232 (p.L.length+m1.length)) (ae fun L1:List Fx=>ae fun d1:Nat=>ae fun o1:Nat=>ae fun u1:Nat=>iP (d1≤L1.length∧L1.length≤p.L.length+m1.length∧L1.drop d1=p.L.drop p.a++m1) (iP (((L1.length - d1:Nat):Int)<(400:Int)) (mE (.psub 55 33 d1 (L1.length - d1) o1 (some u1)) (mP (d1+(L1.length - d1)=L1.length) (aM fun m2:List Fx=>mP (bg (m2.map dA) (o_D 2 [] r1.hm r1.mm r1.h r1.e)) (mP (bQ 232 (L1.length+m2.length)) (ae fun L2:List Fx=>ae fun d2:Nat=>ae fun o2:Nat=>ae fun u2:Nat=>iP (d2≤L2.length∧L2.length≤L1.length+m2.length∧L2.drop d2=L1.drop d1++m2) (K (.tup []) (WP p.l0 p.com0 p.g0 p.g1 p.g2 r1.l1 r1.z r1.z (p1.now+2) r1.z r1.z p.l2 p.com2 p.t2 p.hm2 p.m2 p.ht2 p.a2 L2 d2 o2 u2 p.now p.cnt) 37) true))))) (K (.tup []) (WP p.l0 p.com0 p.g0 p.g1 p.g2 r1.l1 r1.z r1.z (p1.now+2) r1.z r1.z p.l2 p.com2 p.t2 p.hm2 p.m2 p.ht2 p.a2 L1 d1 o1 u1 p.now p.cnt) 37)) true))))) (K (.tup []) (WP p.l0 p.com0 p.g0 p.g1 p.g2 r1.l1 r1.z r1.z (p1.now+2) r1.z r1.z p.l2 p.com2 p.t2 p.hm2 p.m2 p.ht2 p.a2 p.L p.a p.o p.cp p.now p.cnt) 37))))) (by kernel_rfl) ?_
 dsimp only[yK]at hpre
 obtain⟨⟨n0,n1,n2,n3,n4⟩,hx⟩:=hpre
 obtain⟨hx1,hx2,hx3,hx4,hx5,hx6,hx7,hx8,hx9⟩:=hx
 refine aH ?_
 refine cq ?_
 refine aF (by(try dsimp only[za]);repeat(first|assumption|omega|apply And.intro)) fun r1 hi1=> ?_
 dsimp only[wP]at hi1 ⊢
 have hv:=hi1
 apply iI<;>intro hc2
 refine aH (aX ?_)
 refine aR ([⟨1,0,10,0,0,0,0,2,r1.hm,r1.mm,(.slice none 0 0),[],r1.h,r1.e,(.slice none 0 0),[]⟩]:List Fx) ?_
 refine fv (eU ?_)
 refine ac fun L1=> ?_
 refine ac fun d1=> ?_
 refine ac fun o1=> ?_
 refine ac fun u1=> ?_
 refine iJ fun hi3=> ?_
 have apL1:=fw hi3
 have lnL1:=apL1.len
 apply iI<;>intro hc4
 refine aH (aX ?_)
 refine aR ([⟨1,2,10,0,0,0,0,2,r1.hm,r1.mm,(.slice none 0 0),[],r1.h,r1.e,(.slice none 0 0),[]⟩]:List Fx) ?_
 refine fv (eU ?_)
 refine ac fun L2=> ?_
 refine ac fun d2=> ?_
 refine ac fun o2=> ?_
 refine ac fun u2=> ?_
 refine iJ fun hi5=> ?_
 have apL2:=fw hi5
 have lnL2:=apL2.len
 exact EV (r:=⟨r1.l1,L2,d2,o2,u2,r1.z⟩) hK (by dsimp only[oL]<;>(first|(exfalso;omega)|(exfalso;simp only[apw,apy]at*;omega)|(have ap:=(apL1).trans apL2;(try simp only[apC,apD]at ap);(rw[hv.2.2.1,hv.2.2.2]at ap;exact⟨hv.1,hv.2.1,_,_,ap⟩))))
 exact EV (r:=⟨r1.l1,L1,d1,o1,u1,r1.z⟩) hK (by dsimp only[oL]<;>(first|(exfalso;omega)|(exfalso;simp only[apw,apy]at*;omega)|(have ap:=apL1;(try simp only[apC,apD]at ap);(rw[hv.2.2.1,hv.2.2.2]at ap;exact⟨hv.1,hv.2.1,_,_,ap⟩))))
 exact EV (r:=⟨r1.l1,p.L,p.a,p.o,p.cp,r1.z⟩) hK (by dsimp only[oL]<;>(first|(exfalso;omega)|(exfalso;simp only[apw,apy]at*;omega)|(have ap:=Ap.nil (by omega);(try simp only[apC,apD]at ap);(rw[hv.2.2.1,hv.2.2.2]at ap;exact⟨hv.1,hv.2.1,_,_,ap⟩))))
noncomputable def Rp:NN:=bB Rf (nE nY ae2) [(0,4),(1,15)] (fun us=>aA (aA (Nat.beq (aC us 1 0) 2) (Nat.beq (aC us 1 1) 1)) (Nat.beq (aC us 1 2) 6))
structure vJ where (l0:List Ke) (com0 g0 g1 g2:Int) (l1:List Ke) (com1 b1 u c0 c1:Int) (l2:List Ke) (com2 t2:Int) (hm2:Value) (m2:List Int) (ht2:Value) (a2:List Ke) (L:List Fx) (a o cp:Nat) (now cnt x_n x_c:Int) (x_vh:Value) (x_vl:List Int) (x_mh:Value) (x_ml:List Int) (x_h:Value) (x_l:List Ke) (x_th:Value) (x_tl:List Ke)
structure Hh where (l2:List Ke) (L:List Fx) (a o cp:Nat)
def wD (p:vJ) (r:Hh):Prop:=r.l2=p.x_l∧Ap r.L r.a p.L p.a []
noncomputable def ZG (p:vJ):IE:=([.ptr 0 0,hU 1 2 10 0 p.x_n p.x_c 0 [] 2 p.x_vh p.x_vl p.x_mh p.x_ml p.x_h p.x_l p.x_th p.x_tl],(WP p.l0 p.com0 p.g0 p.g1 p.g2 p.l1 p.com1 p.b1 p.u p.c0 p.c1 p.l2 p.com2 p.t2 p.hm2 p.m2 p.ht2 p.a2 p.L p.a p.o p.cp p.now p.cnt),37)
noncomputable def Vs (p:vJ) (K:KE) (r:Hh):Bool:=K (.tup []) (fi p.l0 p.com0 p.g0 p.g1 p.g2 p.l1 p.com1 p.b1 p.u p.c0 p.c1 r.l2 (p.x_l.length:Int) (p.x_l.length:Int) (p.now+2) (p.x_l.length:Int) (p.x_l.length:Int) r.L r.a r.o r.cp p.now p.cnt) 38
noncomputable def Qq (p:vJ) (K:KE):Bool:=ae fun r=>iP (wD p r) (Vs p K r) true
def yF (p:vJ):Prop:=Bs p.now p.L p.a∧p.x_ml=[]∧p.x_tl=[]∧p.x_n=0∧p.x_c=0∧p.x_vl=[(1:Int),(2:Int)]∧bF p.x_l∧p.x_l.length≤400
theorem adY {p:vJ} {K:KE} (hK:Qq p K=true) {r:Hh} (h:wD p r):Vs p K r=true:=ax h (aq hK r)
theorem aeV:Vf yF Qq 1 Rp aJ rM ZG:=by
 intro p K hpre hK
 refine Eq.trans (b:=(mE (.int 0 p.now) (aa (qL [qI 3 p.x_n,qI 3 p.x_c,qY ((.imm p.x_vh 2 Int p.x_vl aG)),qY ((.imm p.x_mh 2 Int p.x_ml aG)),qY ((.imm p.x_h 18 Ke p.x_l au)),qY ((.imm p.x_th 18 Ke p.x_tl au))]) (ay ZX yX wN ⟨p.l2,p.com2,p.t2,p.hm2,p.m2,p.ht2,p.a2,p.x_n,p.x_c,p.x_vh,p.x_vl,p.x_mh,p.x_ml,p.x_h,p.x_l,p.x_th,p.x_tl,p.now⟩ fun p1 r1=>K (.tup []) (fi p.l0 p.com0 p.g0 p.g1 p.g2 p.l1 p.com1 p.b1 p.u p.c0 p.c1 r1.l2 (p1.x_l.length:Int) (p1.x_l.length:Int) (p1.now+2) (p1.x_l.length:Int) (p1.x_l.length:Int) p.L p.a p.o p.cp p.now p.cnt) 38)))) (by kernel_rfl) ?_
 dsimp only[yF]at hpre
 obtain⟨⟨n0,n1,n2,n3,n4⟩,hx⟩:=hpre
 obtain⟨hx1,hx2,hx3,hx4,hx5,hx6,hx7⟩:=hx
 refine aH ?_
 refine cq ?_
 refine aF (by(try dsimp only[yX]);repeat(first|assumption|omega|apply And.intro)) fun r1 hi1=> ?_
 dsimp only[wN]at hi1 ⊢
 have hv:=hi1
 exact adY (r:=⟨r1.l2,p.L,p.a,p.o,p.cp⟩) hK (by dsimp only[wD]<;>(first|(exfalso;omega)|(exfalso;simp only[apw,apy]at*;omega)|(have ap:=Ap.nil (by omega);(try simp only[apC,apD]at ap);exact⟨by assumption,ap⟩)))
noncomputable def Ri:NN:=bB Rp (nE nY aeV) [(0,4),(1,15)] (fun us=>aA (aA (Nat.beq (aC us 1 0) 1) (Nat.beq (aC us 1 1) 2)) (Nat.beq (aC us 1 2) 10))
noncomputable def NB (l0:List Ke) (com0 g0 g1 g2:Int):T:=(n2 (n2 (n2 (n0 (aO l0)) (bu 0) .leaf) (aE 0 1 2) (n2 (n0 (aE 0 1 2)) (bm true 9 3) .leaf)) (eX 1 3 2 3 0 4 5) (n2 (n2 (n0 (cP 0 g0 1 g1 2 g2)) (aE 0 1 2) .leaf) (bj 6 3 0 7 l0.length com0 false 8) (n0 (aE 0 1 2))))
noncomputable def LU (l0:List Ke) (com0 g0 g1 g2:Int) (h1:Value) (e1:List Ke) (h2:Value) (e2:List Ke) (k0:Nat):T:=(n2 (n2 (n2 (n0 (aE 0 1 2)) (bj 7 3 0 8 k0 com0 false 9) .leaf) (o_G 1 g1 com0 [] h1 e1 2 g2 h2 e2) (n2 (n0 (cP 0 g0 1 g1 2 g2)) (aE 0 1 2) .leaf)) (eX 2 3 3 4 0 5 6) (n2 (n2 (n0 (aO l0)) (bu 0) .leaf) (aE 0 1 2) (n2 (n0 (aE 0 1 2)) (bm true 10 3) .leaf)))
def eC:XF:=.mk 95 (.one 4) (.seq (g_ 1 [p_ 0 4 (.mv N_)]) (.seq (g_ 3 [p_ 0 7 (.bld [j_ 1 0,j_ 1 0,j_ 1 0,j_ 3 0,j_ 3 0,j_ 3 0,j_ 3 0,j_ 4 0,j_ 4 0,j_ 1 0,j_ 2 0,j_ 3 0,j_ 1 0,j_ 1 0,j_ 1 0,j_ 1 0,j_ 1 0,j_ 1 0,j_ 1 0,.nilS,j_ 1 0,.str [],j_ 1 0,j_ 3 0,.nilS,j_ 1 0,j_ 2 0,.bool false,.nilS,.nilS,.nilS] [(0,1)] [v_ 1 11]),e_ 1 5 Do,aK 2 (.st 31 (.t 5) (.t 7))]) (.seq (.seq (g_ 3 [p_ 0 8 (m_ 0),c_ 1 9 32 [.t 8],p_ 2 10 (.un 0 (.t 9))]) (.cond (.t 10) (h_ 12 [p_ 0 11 (m_ 0),p_ 1 12 (n_ 11),p_ 2 13 (f_ 7 12),r_ 3 14 (l_ 13),p_ 4 15 (m_ 0),p_ 5 16 (n_ 15),p_ 6 17 (f_ 8 16),r_ 7 18 (.ld true 2 (.t 17)),p_ 8 19 (f_ 1 5),aK 9 (.st 1 (.t 19) (.t 14)),a_ 7 18 (.ld true 2 (.t 17)),p_ 10 20 (f_ 25 5),aK 11 (.st 2 (.t 20) (.t 18))]) .skip)) (.seq (.seq (g_ 3 [p_ 0 21 (m_ 0),c_ 1 22 19 [.t 21],p_ 2 23 (.un 0 (.t 22))]) (.cond (.t 23) (.seq (.seq (g_ 9 [p_ 0 24 (m_ 0),c_ 1 25 32 [.t 24],p_ 2 26 (m_ 25),ah 3 27 26 false (m_ 0),ah 4 28 26 false (n_ 27),ah 5 29 26 false (f_ 14 28),aT 6 30 26 false (l_ 29),ah 7 31 26 false (.un 0 (.t 30)),p_ 8 32 (.pick (.t 26) T_ (.t 31))]) (.cond (.t 32) (.seq (g_ 1 [p_ 0 4 (.mv N_)]) .ret) .skip)) (.seq (h_ 8 [p_ 0 33 (m_ 0),r_ 1 34 (.ld true 31 (.t 5)),p_ 2 35 (m_ 0),p_ 3 36 (n_ 35),p_ 4 37 (f_ 10 36),r_ 5 38 (l_ 37),c_ 6 39 69 [.t 33,.t 34,.t 38],p_ 7 4 (m_ 39)]) .ret)) .skip)) (.seq (g_ 1 [p_ 0 6 (.mv N_)]) (.seq (.seq (h_ 9 [p_ 0 40 (m_ 0),p_ 1 41 (n_ 40),p_ 2 42 (f_ 13 41),r_ 3 43 (l_ 42),p_ 4 44 (m_ 0),p_ 5 45 (n_ 44),p_ 6 46 (f_ 8 45),r_ 7 47 (.ld true 2 (.t 46)),c_ 8 48 57 [.t 43,.t 47]]) (.cond (.t 48) (.seq (g_ 2 [p_ 0 49 (f_ 0 5),aK 1 (.st 1 (.t 49) (v_ 1 12))]) (h_ 10 [p_ 0 50 (m_ 0),r_ 1 51 (.ld true 31 (.t 5)),p_ 2 52 (m_ 0),p_ 3 53 (n_ 52),p_ 4 54 (f_ 0 53),p_ 5 55 (f_ 0 54),p_ 6 56 (f_ 2 55),r_ 7 57 (l_ 56),c_ 8 58 69 [.t 50,.t 51,.t 57],p_ 9 6 (m_ 58)])) .skip)) (.seq (.seq (h_ 11 [p_ 0 59 (m_ 0),p_ 1 60 (n_ 59),p_ 2 61 (f_ 0 60),p_ 3 62 (f_ 0 61),r_ 4 63 (.ld true 3 (.t 62)),p_ 6 65 (m_ 0),p_ 7 66 (n_ 65),p_ 8 67 (f_ 8 66),r_ 9 68 (.ld true 2 (.t 67)),c_ 5 64 41 [.t 63],a_ 9 68 (.ld true 2 (.t 67)),p_ 10 69 (.eqs false 2 (.st [(0,1,false,.int),(1,1,false,.int)]) (.t 64) (.t 68))]) (.cond (.t 69) (g_ 5 [p_ 0 70 (m_ 6),p_ 1 71 (m_ 0),c_ 2 72 70 [.t 71],e_ 3 73 (.app 118 33 224 (.t 70) (.t 72)),p_ 4 6 (m_ 73)]) .skip)) (.seq (.block 2 (.seq (g_ 7 [p_ 0 75 (m_ 0),p_ 1 76 (n_ 75),p_ 2 77 (f_ 0 76),p_ 3 78 (f_ 5 77),r_ 4 79 (l_ 78),p_ 5 80 (.isn true 1 (.t 79)),p_ 6 74 (m_ 80)]) (.cond (.t 74) (g_ 5 [p_ 0 81 (m_ 6),p_ 1 82 (m_ 0),c_ 2 83 71 [.t 82],e_ 3 84 (.app 118 33 224 (.t 81) (.t 83)),p_ 4 6 (m_ 84)]) (.seq (g_ 4 [p_ 0 86 (m_ 0),p_ 1 87 (m_ 1),c_ 2 88 72 [.t 86,.t 87],p_ 3 85 (m_ 88)]) (.cond (.t 85) (g_ 6 [p_ 0 89 (m_ 6),p_ 1 90 (m_ 0),p_ 2 91 (m_ 1),c_ 3 92 73 [.t 90,.t 91],e_ 4 93 (.app 118 33 224 (.t 89) (.t 92)),p_ 5 6 (m_ 93)]) .skip))))) (.seq (g_ 2 [p_ 0 94 (m_ 6),p_ 1 4 (m_ 94)]) .ret)))))))))
theorem dm:bN Tryz.prog 50 eC=true:=by kernel_rfl
structure wl where (l0:List Ke) (com0 g0 g1 g2 now:Int)
structure Pv where (h1:Value) (e1:List Ke) (h2:Value) (e2:List Ke)
def xp (p:wl) (r:Pv):Prop:=r.e1=p.l0.drop p.g1.toNat∧r.e2=p.l0.drop p.g2.toNat
noncomputable def aah (p:wl):IE:=([.ptr 0 0,.sy (.int 0 p.now)],(NB p.l0 p.com0 p.g0 p.g1 p.g2),10)
noncomputable def VG (p:wl) (K:KE) (r:Pv):Bool:=K (.sl 1 0 2 (.rest 0)) (LU p.l0 p.com0 p.g0 p.g1 p.g2 r.h1 r.e1 r.h2 r.e2 p.l0.length) 11
noncomputable def QO (p:wl) (K:KE):Bool:=ae fun r=>iP (xp p r) (VG p K r) true
def zh (p:wl):Prop:=0≤p.now∧p.now≤1000000∧p.l0.length≤400∧0≤p.com0∧p.com0≤400∧(0≤p.g1∧p.g1≤(p.l0.length:Int)∧(p.l0.length:Int)≤p.g1+16)∧(0≤p.g2∧p.g2≤(p.l0.length:Int)∧(p.l0.length:Int)≤p.g2+16)
theorem Sv {p:wl} {K:KE} (hK:QO p K=true) {r:Pv} (h:xp p r:=by dsimp only[xp]<;>exact⟨zQ hi1.1 (by omega),zQ hi2.1 (by omega)⟩):VG p K r=true:=ax h (aq hK r)
theorem afK:Vf zh QO 1 Ri aJ eC aah:=by
 intro p K hpre hK
 refine Eq.trans (b:=(mP (aI 0 ((p.l0.length:Int) - p.g1)) (mP (aI 0 (p.g1+(min ((p.l0.length:Int) - p.g1) 16))) (mP (p.l0.length=p.l0.length∧0≤p.g1∧p.g1≤(p.g1+(min ((p.l0.length:Int) - p.g1) (16:Int)))∧(p.g1+(min ((p.l0.length:Int) - p.g1) (16:Int)))≤(p.l0.length:Int)) (ay cN bJ aZ ⟨p.l0,p.g1.toNat,((p.g1+(min ((p.l0.length:Int) - p.g1) (16:Int))).toNat) - p.g1.toNat⟩ fun p1 r1=>mP (aI 3 p.g1) (mP (aI 3 p.com0) (mP (aI 0 ((p.l0.length:Int) - p.g2)) (mP (aI 0 (p.g2+(min ((p.l0.length:Int) - p.g2) 16))) (mP (p.l0.length=p1.l.length∧0≤p.g2∧p.g2≤(p.g2+(min ((p.l0.length:Int) - p.g2) (16:Int)))∧(p.g2+(min ((p.l0.length:Int) - p.g2) (16:Int)))≤(p.l0.length:Int)) (ay cN bJ aZ ⟨p1.l,p.g2.toNat,((p.g2+(min ((p.l0.length:Int) - p.g2) (16:Int))).toNat) - p.g2.toNat⟩ fun p2 r2=>mP (aI 3 p.g2) (mP (aI 3 p.com0) (iP ((2:Int)≤p.now) (cu (K (.sl 1 0 2 (.rest 0)) (LU p2.l p.com0 p.g0 p.g1 p.g2 r1.h r1.o r2.h r2.o p.l0.length) 11)) (K (.sl 1 0 2 (.rest 0)) (LU p2.l p.com0 p.g0 p.g1 p.g2 r1.h r1.o r2.h r2.o p.l0.length) 11))))))))))))) (by kernel_rfl) ?_
 dsimp only[zh]at hpre
 obtain⟨n0,n1,hx⟩:=hpre
 obtain⟨hx1,hx2,hx3,⟨u1,v1,w1⟩,⟨u2,v2,w2⟩⟩:=hx
 refine be (be (cz ?_))
 refine cV fun r1 hi1=> ?_
 dsimp only[aZ]at hi1 ⊢
 have hlhi1:=hi1.2
 (try simp only[apL,apW]at hlhi1)
 refine be (be (be (be (tZ ?_))))
 refine cV fun r2 hi2=> ?_
 dsimp only[aZ]at hi2 ⊢
 have hlhi2:=hi2.2
 (try simp only[apL,apW]at hlhi2)
 refine be (be ?_)
 apply iI<;>intro hc3
 refine bk ?_
 exact Sv (r:=⟨r1.h,r1.o,r2.h,r2.o⟩) hK
 exact Sv (r:=⟨r1.h,r1.o,r2.h,r2.o⟩) hK
noncomputable def nc_ch3_1:EE 50 1:=bA (fun us M=>aA (aA (Nat.beq (zC M 0 8) 0) (Nat.beq (zC M 0 1) 1)) (kx (cT M 0 11))) (nE dm afK) nc_yt3
noncomputable def Sb:NN:=ck Ri nc_ch3_1.2 [(0,4),(1,20)]
noncomputable def NA (l1:List Ke) (com1:Int):T:=(n2 (n2 (n2 (n0 (aO l1)) (bu 0) .leaf) (aE 0 1 2) (n2 (n0 (aE 0 1 2)) (bm true 9 3) .leaf)) (eX 1 3 2 3 1 4 5) (n2 (n2 (n0 (cP 0 0 1 0 2 0)) (aE 0 1 2) .leaf) (bj 6 3 1 7 l1.length com1 false 8) (n0 (aE 0 1 2))))
abbrev Gp:=vk
noncomputable def Tp (p:Gp):IE:=([.ptr 0 0,.sy (.int 0 p.now)],(NA p.l1 p.com1),10)
noncomputable def XK (p:Gp) (K:KE):Bool:=K .nilS (NA p.l1 p.com1) 10
def sR (p:Gp):Prop:=0≤p.now∧p.now≤1000000
theorem aa3:Vf sR XK 1 Sb aJ eC Tp:=by
 intro p K hpre hK
 refine Eq.trans (b:=(iP ((2:Int)≤p.now) (cu (K .nilS (NA p.l1 p.com1) 10)) (K .nilS (NA p.l1 p.com1) 10))) (by kernel_rfl) ?_
 dsimp only[sR]at hpre
 obtain⟨n0,n1⟩:=hpre
 apply iI<;>intro hc1
 refine bk ?_
 exact hK
 exact hK
noncomputable def nc_cf3_1_1:EE 50 1:=bA (fun us M=>aA (aA (Nat.beq (zC M 0 8) 1) (Nat.beq (zC M 0 1) 1)) (kx (cT M 0 11))) (nE dm aa3) nc_ch3_1
noncomputable def JC:NN:=ck Sb nc_cf3_1_1.2 [(0,4),(1,20)]
noncomputable def acx (l1:List Ke) (com1:Int):T:=(n2 (n2 (n2 (n0 (aE 0 1 2)) (bj 7 3 1 8 l1.length com1 false 9) .leaf) (QU 0 1 (l1.length:Int) []) (n2 (n0 (cP 0 0 1 0 2 0)) (aE 0 1 2) .leaf)) (eX 2 3 3 4 1 5 6) (n2 (n2 (n0 (aO l1)) (bu 0) .leaf) (aE 0 1 2) (n2 (n0 (aE 0 1 2)) (bm true 10 3) .leaf)))
structure mK where (l1:List Ke) (com1 x_n x_c:Int) (x_vh:Value) (x_vl:List Int) (x_mh:Value) (x_ml:List Int) (x_h:Value) (x_l:List Ke) (x_th:Value) (x_tl:List Ke) (now:Int)
structure Af where (l1:List Ke) (com1:Int)
def qE (p:mK) (r:Af):Prop:=r.l1=p.l1++p.x_l∧r.com1=max p.com1 (min p.x_c (r.l1.length:Int))
noncomputable def TA (p:mK):IE:=([.ptr 0 0,.sy (.int 0 p.now),dL 0,eR 3 1 p.x_n p.x_c 0 [] 0 p.x_vh p.x_vl p.x_mh p.x_ml p.x_h p.x_l p.x_th p.x_tl],(NA p.l1 p.com1),10)
noncomputable def qQ (p:mK) (K:KE) (r:Af):Bool:=K (.sl 1 0 1 (.ex 1)) (acx r.l1 r.com1) 11
noncomputable def IN (p:mK) (K:KE):Bool:=ae fun r=>iP (qE p r) (qQ p K r) true
def sZ (p:mK):Prop:=0≤p.now∧p.now≤1000000∧p.x_vl=[]∧p.x_ml=[]∧p.x_tl=[]∧p.x_n=(p.l1.length:Int)∧bF p.x_l∧p.l1.length+p.x_l.length≤400∧0≤(p.l1.length:Int)∧0≤p.x_c∧p.x_c≤400∧0≤0
theorem lF {p:mK} {K:KE} (hK:IN p K=true) {r:Af} (h:qE p r:=by dsimp only[qE]<;>(first|(exfalso;omega)|(refine⟨?_,rfl⟩;rw[apS (show p.x_l.length=0 by omega)];simp;done)|(refine⟨?_,rfl⟩;rw[hv.1,show((p.l1.length:Int) - p.x_n).toNat=0 by omega];simp;done))):qQ p K r=true:=ax h (aq hK r)
theorem abb:Vf sZ IN 1 JC aJ bZ TA:=by
 intro p K hpre hK
 refine Eq.trans (b:=(let z0:Bool:=(qQ p K ⟨p.l1,max p.com1 (min p.x_c (p.l1.length:Int))⟩);let z1:Bool:=(qQ p K ⟨p.l1,p.com1⟩);aL vy fo ⟨p.x_n,p.x_c,p.x_vh,p.x_vl,p.x_mh,p.x_ml,p.x_h,p.x_l,p.x_th,p.x_tl⟩ fun p1=>mP (aI 0 p.x_n) (mP (aI 0 p.x_c) (iP (p.x_n<(0:Int)) (mP (aI 3 (p.l1.length:Int)) z1) (iP ((p.l1.length:Int)<p.x_n) (mP (aI 3 (p.l1.length:Int)) z1) (mP (aI 0 ((400:Int) - p.x_n)) (iP ((400 - p.x_n)<(p.x_l.length:Int)) (mP (aI 3 (p.l1.length:Int)) z1) (mP (aI 0 ((p.l1.length:Int) - p.x_n)) (iP (((p.l1.length:Int) - p.x_n)<(p.x_l.length:Int)) (mP (0≤((p.l1.length:Int) - p.x_n)∧((p.l1.length:Int) - p.x_n)≤(p.x_l.length:Int)∧(p.x_l.length:Int)≤(p.x_l.length:Int)) (ay bT bp aQ ⟨fp p.x_h 18 (((p.l1.length:Int) - p.x_n).toNat) p.x_l.length,(p.x_l.drop (((p.l1.length:Int) - p.x_n).toNat)).take (p.x_l.length - (((p.l1.length:Int) - p.x_n).toNat))⟩ fun p2 r1=>mE (.prow 7 p.l1.length) (mP (r1.o.length=r1.o.length) (mP (p.l1.length=p.l1.length) (iP (r1.o=[]) (mP (aI 3 (p.l1.length:Int)) z0) (aM fun m1:List Ke=>mP (bg (m1.map au) (r1.o.map au)) (mP (bQ 104 (p.l1.length+m1.length)) (mP (aI 3 ((p.l1++m1).length:Int)) (qQ p K ⟨p.l1++m1,max p.com1 (min p.x_c ((p.l1++m1).length:Int))⟩))))))))) (mP (aI 3 (p.l1.length:Int)) z0)))))))))) (by kernel_rfl) ?_
 dsimp only[sZ]at hpre
 obtain⟨n0,n1,h_vl,h_ml,h_tl,hx⟩:=hpre
 have e_vl:=congrArg List.length h_vl
 have e_ml:=congrArg List.length h_ml
 have e_tl:=congrArg List.length h_tl
 simp only[apy]at e_vl e_ml e_tl
 obtain⟨hn,hks,hlen,hb,hq1,hq2,hb0⟩:=hx
 refine aV (by(try dsimp only[fo]);repeat(first|assumption|omega|apply And.intro)) ?_
 refine be (be ?_)
 apply iI<;>intro hc1
 refine be ?_
 exact lF hK
 apply iI<;>intro hc2
 refine be ?_
 exact lF hK
 refine be ?_
 apply iI<;>intro hc3
 refine be ?_
 exact lF hK
 refine be ?_
 apply iI<;>intro hc4
 refine cz ?_
 refine bW fun r1 hi5=> ?_
 dsimp only[aQ]at hi5
 have hv:=hi5
 have hlhi5:=hi5.2
 (try simp only[apL,apW]at hlhi5)
 refine aH (cz (aH ?_))
 apply iI<;>intro hc6
 have hc6l:(r1.o).length=0:=(by rw[hc6];rfl)
 refine be ?_
 exact lF hK
 have hc6l:0<(r1.o).length:=List.length_pos_iff.2 hc6
 refine aR r1.o ?_
 refine mI (show bg (r1.o.map au) (r1.o.map au) from cF _) (tZ (be ?_))
 exact lF hK
 refine be ?_
 exact lF hK
noncomputable def nc_ca3_1_1:EE 51 1:=bA (fun us M=>aA (aA (Nat.beq (zC M 0 8) 1) (Nat.beq (zC M 0 1) 1)) (kx (cT M 0 11))) (nE bt abb) eS
noncomputable def JK:NN:=bB JC nc_ca3_1_1.2 [(0,4),(1,20),(2,15),(3,15)] (fun us=>aA (Nat.beq (aC us 2 0) 0) (Nat.beq (aC us 3 0) 3))
structure mJ where (l0:List Ke) (com0 g0 g1 g2 x_n x_c:Int) (x_vh:Value) (x_vl:List Int) (x_mh:Value) (x_ml:List Int) (x_h:Value) (x_l:List Ke) (x_th:Value) (x_tl:List Ke) (now:Int)
structure Ad where (com0 g0 g1:Int)
def nh (p:mJ) (r:Ad):Prop:=r.g0=(p.l0.length:Int)∧r.g1=max p.g1 p.x_n∧ib 2 p.com0 r.com0 [r.g0,r.g1,p.g2]
noncomputable def Tj (p:mJ):IE:=([.ptr 0 0,.sy (.int 0 p.now),dL 1,eR 4 1 p.x_n p.x_c 0 [] 0 p.x_vh p.x_vl p.x_mh p.x_ml p.x_h p.x_l p.x_th p.x_tl],(NB p.l0 p.com0 p.g0 p.g1 p.g2),10)
noncomputable def uQ (p:mJ) (K:KE) (r:Ad):Bool:=K .nilS (NB p.l0 r.com0 r.g0 r.g1 p.g2) 10
noncomputable def IC (p:mJ) (K:KE):Bool:=ae fun r=>iP (nh p r) (uQ p K r) true
def sM (p:mJ):Prop:=0≤p.now∧p.now≤1000000∧p.x_vl=[]∧p.x_ml=[]∧p.x_l=[]∧p.x_tl=[]∧0≤p.x_n∧p.x_n≤(p.l0.length:Int)∧p.l0.length≤400∧p.x_c=0
theorem Kr {p:mJ} {K:KE} (hK:IC p K=true) {r:Ad} (h:nh p r):uQ p K r=true:=ax h (aq hK r)
theorem aaV:Vf sM IC 1 JK aJ bZ Tj:=by
 intro p K hpre hK
 refine Eq.trans (b:=(aL vw fm ⟨p.x_n,p.x_c,p.x_vh,p.x_vl,p.x_mh,p.x_ml,p.x_h,p.x_l,p.x_th,p.x_tl⟩ fun p1=>mP (aI 0 p.x_n) (iP ((p.l0.length:Int)<p.x_n) (uQ p K ⟨p.com0,p.g0,p.g1⟩) (aM fun p2:jT=>mP (mD ⟨p.l0,p.com0,p.g0,max p.g1 p.x_n,p.g2⟩=mD p2) (ae fun r1:iK=>iP (gD p2 r1) (uQ {p with l0:=p2.l,g2:=p2.c2} K ⟨r1.com,(p2.l.length:Int),p2.c1⟩) true))))) (by kernel_rfl) ?_
 dsimp only[sM]at hpre
 obtain⟨n0,n1,h_vl,h_ml,h_l,h_tl,hx⟩:=hpre
 have e_vl:=congrArg List.length h_vl
 have e_ml:=congrArg List.length h_ml
 have e_l:=congrArg List.length h_l
 have e_tl:=congrArg List.length h_tl
 simp only[apy]at e_vl e_ml e_l e_tl
 obtain⟨hx1,hx2,hx3,hx4⟩:=hx
 refine aV (by(try dsimp only[fm]);repeat(first|assumption|omega|apply And.intro)) ?_
 refine be ?_
 apply iI<;>intro hc1
 exact Kr hK (by dsimp only[nh]<;>(first|(exfalso;omega)|exact⟨rfl,rfl,hi0⟩))
 refine fu (.mk ..) rfl fun r1 hi2=> ?_
 dsimp only[gD]at hi2
 exact Kr (p:=p) hK (by dsimp only[nh]<;>(first|(exfalso;omega)|exact⟨rfl,rfl,hi2⟩))
noncomputable def nc_ck3_1_1:EE 51 1:=bA (fun us M=>aA (aA (Nat.beq (zC M 0 8) 0) (Nat.beq (zC M 0 1) 1)) (kx (cT M 0 11))) (nE bt aaV) eS
noncomputable def Jt:NN:=bB JK nc_ck3_1_1.2 [(0,4),(1,20),(2,15),(3,15)] (fun us=>aA (Nat.beq (aC us 2 0) 1) (Nat.beq (aC us 3 0) 4))
noncomputable def Nz (l2:List Ke) (com2:Int):T:=(n2 (n2 (n2 (n0 (aO l2)) (bu 0) .leaf) (aE 0 1 2) (n2 (n0 (aE 0 1 2)) (bm true 9 3) .leaf)) (eX 1 3 2 3 2 4 5) (n2 (n2 (n0 (cP 0 0 1 0 2 0)) (aE 0 1 2) .leaf) (bj 6 3 2 7 l2.length com2 false 8) (n0 (aE 0 1 2))))
structure pU where (l2:List Ke) (com2 now:Int)
noncomputable def To (p:pU):IE:=([.ptr 0 0,.sy (.int 0 p.now)],(Nz p.l2 p.com2),10)
noncomputable def XJ (p:pU) (K:KE):Bool:=K .nilS (Nz p.l2 p.com2) 10
def sQ (p:pU):Prop:=0≤p.now∧p.now≤1000000
theorem aa2:Vf sQ XJ 1 Jt aJ eC To:=by
 intro p K hpre hK
 refine Eq.trans (b:=(iP ((2:Int)≤p.now) (cu (K .nilS (Nz p.l2 p.com2) 10)) (K .nilS (Nz p.l2 p.com2) 10))) (by kernel_rfl) ?_
 dsimp only[sQ]at hpre
 obtain⟨n0,n1⟩:=hpre
 apply iI<;>intro hc1
 refine bk ?_
 exact hK
 exact hK
noncomputable def nc_cf3_1_2:EE 50 1:=bA (fun us M=>aA (aA (Nat.beq (zC M 0 8) 2) (Nat.beq (zC M 0 1) 1)) (kx (cT M 0 11))) (nE dm aa2) nc_cf3_1_1
noncomputable def JB:NN:=ck Jt nc_cf3_1_2.2 [(0,4),(1,20)]
noncomputable def acw (l2:List Ke) (com2:Int):T:=(n2 (n2 (n2 (n0 (aE 0 1 2)) (bj 7 3 2 8 l2.length com2 false 9) .leaf) (QU 0 1 (l2.length:Int) []) (n2 (n0 (cP 0 0 1 0 2 0)) (aE 0 1 2) .leaf)) (eX 2 3 3 4 2 5 6) (n2 (n2 (n0 (aO l2)) (bu 0) .leaf) (aE 0 1 2) (n2 (n0 (aE 0 1 2)) (bm true 10 3) .leaf)))
abbrev qd:=nH
structure pr where (l2:List Ke) (com2:Int)
def qD (p:qd) (r:pr):Prop:=r.l2=p.l2++p.x_l∧r.com2=max p.com2 (min p.x_c (r.l2.length:Int))
noncomputable def Tz (p:qd):IE:=([.ptr 0 0,.sy (.int 0 p.now),dL 0,eR 3 1 p.x_n p.x_c 0 [] 0 p.x_vh p.x_vl p.x_mh p.x_ml p.x_h p.x_l p.x_th p.x_tl],(Nz p.l2 p.com2),10)
noncomputable def qP (p:qd) (K:KE) (r:pr):Bool:=K (.sl 1 0 1 (.ex 1)) (acw r.l2 r.com2) 11
noncomputable def IM (p:qd) (K:KE):Bool:=ae fun r=>iP (qD p r) (qP p K r) true
def sY (p:qd):Prop:=0≤p.now∧p.now≤1000000∧p.x_vl=[]∧p.x_ml=[]∧p.x_tl=[]∧p.x_n=(p.l2.length:Int)∧bF p.x_l∧p.l2.length+p.x_l.length≤400∧0≤(p.l2.length:Int)∧0≤p.x_c∧p.x_c≤400∧0≤0
theorem lE {p:qd} {K:KE} (hK:IM p K=true) {r:pr} (h:qD p r:=by dsimp only[qD]<;>(first|(exfalso;omega)|(refine⟨?_,rfl⟩;rw[apS (show p.x_l.length=0 by omega)];simp;done)|(refine⟨?_,rfl⟩;rw[hv.1,show((p.l2.length:Int) - p.x_n).toNat=0 by omega];simp;done))):qP p K r=true:=ax h (aq hK r)
theorem aba:Vf sY IM 1 JB aJ bZ Tz:=by
 intro p K hpre hK
 refine Eq.trans (b:=(let z0:Bool:=(qP p K ⟨p.l2,max p.com2 (min p.x_c (p.l2.length:Int))⟩);let z1:Bool:=(qP p K ⟨p.l2,p.com2⟩);aL vy fo ⟨p.x_n,p.x_c,p.x_vh,p.x_vl,p.x_mh,p.x_ml,p.x_h,p.x_l,p.x_th,p.x_tl⟩ fun p1=>mP (aI 0 p.x_n) (mP (aI 0 p.x_c) (iP (p.x_n<(0:Int)) (mP (aI 3 (p.l2.length:Int)) z1) (iP ((p.l2.length:Int)<p.x_n) (mP (aI 3 (p.l2.length:Int)) z1) (mP (aI 0 ((400:Int) - p.x_n)) (iP ((400 - p.x_n)<(p.x_l.length:Int)) (mP (aI 3 (p.l2.length:Int)) z1) (mP (aI 0 ((p.l2.length:Int) - p.x_n)) (iP (((p.l2.length:Int) - p.x_n)<(p.x_l.length:Int)) (mP (0≤((p.l2.length:Int) - p.x_n)∧((p.l2.length:Int) - p.x_n)≤(p.x_l.length:Int)∧(p.x_l.length:Int)≤(p.x_l.length:Int)) (ay bT bp aQ ⟨fp p.x_h 18 (((p.l2.length:Int) - p.x_n).toNat) p.x_l.length,(p.x_l.drop (((p.l2.length:Int) - p.x_n).toNat)).take (p.x_l.length - (((p.l2.length:Int) - p.x_n).toNat))⟩ fun p2 r1=>mE (.prow 7 p.l2.length) (mP (r1.o.length=r1.o.length) (mP (p.l2.length=p.l2.length) (iP (r1.o=[]) (mP (aI 3 (p.l2.length:Int)) z0) (aM fun m1:List Ke=>mP (bg (m1.map au) (r1.o.map au)) (mP (bQ 104 (p.l2.length+m1.length)) (mP (aI 3 ((p.l2++m1).length:Int)) (qP p K ⟨p.l2++m1,max p.com2 (min p.x_c ((p.l2++m1).length:Int))⟩))))))))) (mP (aI 3 (p.l2.length:Int)) z0)))))))))) (by kernel_rfl) ?_
 dsimp only[sY]at hpre
 obtain⟨n0,n1,h_vl,h_ml,h_tl,hx⟩:=hpre
 have e_vl:=congrArg List.length h_vl
 have e_ml:=congrArg List.length h_ml
 have e_tl:=congrArg List.length h_tl
 simp only[apy]at e_vl e_ml e_tl
 obtain⟨hn,hks,hlen,hb,hq1,hq2,hb0⟩:=hx
 refine aV (by(try dsimp only[fo]);repeat(first|assumption|omega|apply And.intro)) ?_
 refine be (be ?_)
 apply iI<;>intro hc1
 refine be ?_
 exact lE hK
 apply iI<;>intro hc2
 refine be ?_
 exact lE hK
 refine be ?_
 apply iI<;>intro hc3
 refine be ?_
 exact lE hK
 refine be ?_
 apply iI<;>intro hc4
 refine cz ?_
 refine bW fun r1 hi5=> ?_
 dsimp only[aQ]at hi5
 have hv:=hi5
 have hlhi5:=hi5.2
 (try simp only[apL,apW]at hlhi5)
 refine aH (cz (aH ?_))
 apply iI<;>intro hc6
 have hc6l:(r1.o).length=0:=(by rw[hc6];rfl)
 refine be ?_
 exact lE hK
 have hc6l:0<(r1.o).length:=List.length_pos_iff.2 hc6
 refine aR r1.o ?_
 refine mI (show bg (r1.o.map au) (r1.o.map au) from cF _) (tZ (be ?_))
 exact lE hK
 refine be ?_
 exact lE hK
noncomputable def nc_ca3_1_2:EE 51 1:=bA (fun us M=>aA (aA (Nat.beq (zC M 0 8) 2) (Nat.beq (zC M 0 1) 1)) (kx (cT M 0 11))) (nE bt aba) nc_ca3_1_1
noncomputable def JJ:NN:=bB JB nc_ca3_1_2.2 [(0,4),(1,20),(2,15),(3,15)] (fun us=>aA (Nat.beq (aC us 2 0) 0) (Nat.beq (aC us 3 0) 3))
abbrev pT:=mJ
structure Ac where (com0 g0 g2:Int)
def ng (p:pT) (r:Ac):Prop:=r.g0=(p.l0.length:Int)∧r.g2=max p.g2 p.x_n∧ib 2 p.com0 r.com0 [r.g0,p.g1,r.g2]
noncomputable def Ti (p:pT):IE:=([.ptr 0 0,.sy (.int 0 p.now),dL 2,eR 4 1 p.x_n p.x_c 0 [] 0 p.x_vh p.x_vl p.x_mh p.x_ml p.x_h p.x_l p.x_th p.x_tl],(NB p.l0 p.com0 p.g0 p.g1 p.g2),10)
noncomputable def uP (p:pT) (K:KE) (r:Ac):Bool:=K .nilS (NB p.l0 r.com0 r.g0 p.g1 r.g2) 10
noncomputable def IB (p:pT) (K:KE):Bool:=ae fun r=>iP (ng p r) (uP p K r) true
def sL (p:pT):Prop:=0≤p.now∧p.now≤1000000∧p.x_vl=[]∧p.x_ml=[]∧p.x_l=[]∧p.x_tl=[]∧0≤p.x_n∧p.x_n≤(p.l0.length:Int)∧p.l0.length≤400∧p.x_c=0
theorem Kq {p:pT} {K:KE} (hK:IB p K=true) {r:Ac} (h:ng p r):uP p K r=true:=ax h (aq hK r)
theorem aaU:Vf sL IB 1 JJ aJ bZ Ti:=by
 intro p K hpre hK
 refine Eq.trans (b:=(aL vw fm ⟨p.x_n,p.x_c,p.x_vh,p.x_vl,p.x_mh,p.x_ml,p.x_h,p.x_l,p.x_th,p.x_tl⟩ fun p1=>mP (aI 0 p.x_n) (iP ((p.l0.length:Int)<p.x_n) (uP p K ⟨p.com0,p.g0,p.g2⟩) (aM fun p2:jT=>mP (mD ⟨p.l0,p.com0,p.g0,p.g1,max p.g2 p.x_n⟩=mD p2) (ae fun r1:iK=>iP (gD p2 r1) (uP {p with l0:=p2.l,g1:=p2.c1} K ⟨r1.com,(p2.l.length:Int),p2.c2⟩) true))))) (by kernel_rfl) ?_
 dsimp only[sL]at hpre
 obtain⟨n0,n1,h_vl,h_ml,h_l,h_tl,hx⟩:=hpre
 have e_vl:=congrArg List.length h_vl
 have e_ml:=congrArg List.length h_ml
 have e_l:=congrArg List.length h_l
 have e_tl:=congrArg List.length h_tl
 simp only[apy]at e_vl e_ml e_l e_tl
 obtain⟨hx1,hx2,hx3,hx4⟩:=hx
 refine aV (by(try dsimp only[fm]);repeat(first|assumption|omega|apply And.intro)) ?_
 refine be ?_
 apply iI<;>intro hc1
 exact Kq hK (by dsimp only[ng]<;>(first|(exfalso;omega)|exact⟨rfl,rfl,hi0⟩))
 refine fu (.mk ..) rfl fun r1 hi2=> ?_
 dsimp only[gD]at hi2
 exact Kq (p:=p) hK (by dsimp only[ng]<;>(first|(exfalso;omega)|exact⟨rfl,rfl,hi2⟩))
noncomputable def nc_ck3_1_2:EE 51 1:=bA (fun us M=>aA (aA (Nat.beq (zC M 0 8) 0) (Nat.beq (zC M 0 1) 1)) (kx (cT M 0 11))) (nE bt aaU) eS
noncomputable def Js:NN:=bB JJ nc_ck3_1_2.2 [(0,4),(1,20),(2,15),(3,15)] (fun us=>aA (Nat.beq (aC us 2 0) 2) (Nat.beq (aC us 3 0) 4))
noncomputable def LS (l1:List Ke) (com1 b1 u c0 c1:Int) (h2:Value) (e2:List Ke) (k0:Nat):T:=(n2 (n2 (n2 (n0 (nX 11 3 12 2)) (ig 8 2 1 9 k0 b1 com1 10) (n0 (aE 0 1 2))) (.blk true 118 33 [[.int 1 (.ofNat 2),.int 2 (.ofNat 1),.int 1 (.ofNat 3),.int 1 (.ofNat 0),.int 1 (.ofNat 0),.int 3 (.ofNat 2),.sy (.int 3 c1),.sy (.int 3 com1),.int 3 (.ofNat 0),.int 4 (.ofNat 0),.int 4 (.ofNat 0),.int 1 (.ofNat 0),.int 2 (.ofNat 0),.int 3 (.ofNat 0),.int 1 (.ofNat 0),.int 1 (.ofNat 0),.int 1 (.ofNat 0),.int 1 (.ofNat 0),.int 1 (.ofNat 0),.int 1 (.ofNat 0),.int 1 (.ofNat 0),.nilS,.int 1 (.ofNat 0),.str [],.int 1 (.ofNat 0),.int 3 (.ofNat 0),.nilS,.int 1 (.ofNat 0),.int 2 (.ofNat 0),.bool false,.nilS,.sy (.imm h2 18 Ke e2 au),.nilS]]) (n2 (n0 (aO l1)) (aE 0 1 2) .leaf)) (nU 2 2 3 4 1 5 3 6 u 7) (n2 (n2 (n0 gK) (bu 0) (n0 gK)) gK (n2 (n0 (Dq c0 c1)) (bL 0) .leaf)))
structure wk where (l1:List Ke) (com1 b1 u c0 c1 now:Int)
structure Pu where (h2:Value) (e2:List Ke)
def xn (p:wk) (r:Pu):Prop:=r.e2=p.l1.drop p.c1.toNat
noncomputable def aag (p:wk):IE:=([.ptr 0 0,.sy (.int 0 p.now)],(acB p.l1 p.com1 p.b1 p.u p.c0 p.c1),12)
noncomputable def VF (p:wk) (K:KE) (r:Pu):Bool:=K (.sl 1 0 1 (.rest 0)) (LS p.l1 p.com1 p.b1 p.u p.c0 p.c1 r.h2 r.e2 p.l1.length) 13
noncomputable def QN (p:wk) (K:KE):Bool:=ae fun r=>iP (xn p r) (VF p K r) true
def zg (p:wk):Prop:=0≤p.now∧p.now≤1000000∧p.l1.length≤400∧0≤p.com1∧p.com1≤400∧(0≤p.c1∧p.c1≤(p.l1.length:Int)∧(p.l1.length:Int)≤p.c1+16)
theorem Su {p:wk} {K:KE} (hK:QN p K=true) {r:Pu} (h:xn p r:=by dsimp only[xn]<;>exact zQ hi1.1 (by omega)):VF p K r=true:=ax h (aq hK r)
theorem afJ:Vf zg QN 1 Js aJ eC aag:=by
 intro p K hpre hK
 refine Eq.trans (b:=(mP (aI 0 ((p.l1.length:Int) - p.c1)) (mP (aI 0 (p.c1+(min ((p.l1.length:Int) - p.c1) 16))) (mP (p.l1.length=p.l1.length∧0≤p.c1∧p.c1≤(p.c1+(min ((p.l1.length:Int) - p.c1) (16:Int)))∧(p.c1+(min ((p.l1.length:Int) - p.c1) (16:Int)))≤(p.l1.length:Int)) (ay cN bJ aZ ⟨p.l1,p.c1.toNat,((p.c1+(min ((p.l1.length:Int) - p.c1) (16:Int))).toNat) - p.c1.toNat⟩ fun p1 r1=>mP (aI 3 p.c1) (mP (aI 3 p.com1) (iP (p.u≤p.now) (cu (K (.sl 1 0 1 (.rest 0)) (LS p1.l p.com1 p.b1 p.u p.c0 p.c1 r1.h r1.o p.l1.length) 13)) (K (.sl 1 0 1 (.rest 0)) (LS p1.l p.com1 p.b1 p.u p.c0 p.c1 r1.h r1.o p.l1.length) 13)))))))) (by kernel_rfl) ?_
 dsimp only[zg]at hpre
 obtain⟨n0,n1,hx⟩:=hpre
 obtain⟨hx1,hx2,hx3,⟨u2,v2,w2⟩⟩:=hx
 refine be (be (cz ?_))
 refine cV fun r1 hi1=> ?_
 dsimp only[aZ]at hi1 ⊢
 have hlhi1:=hi1.2
 (try simp only[apL,apW]at hlhi1)
 refine be (be ?_)
 apply iI<;>intro hc2
 refine bk ?_
 exact Su (r:=⟨r1.h,r1.o⟩) hK
 exact Su (r:=⟨r1.h,r1.o⟩) hK
noncomputable def nc_ch3_2:EE 50 1:=bA (fun us M=>aA (aA (Nat.beq (zC M 0 8) 1) (Nat.beq (zC M 0 1) 2)) (cT M 0 11)) (nE dm afJ) nc_cf3_1_2
noncomputable def Sa:NN:=ck Js nc_ch3_2.2 [(0,4),(1,20)]
structure Gn where (l2:List Ke) (com2 b2 u2 d2_0 d2_1 now:Int)
noncomputable def Gg (p:Gn):IE:=([.ptr 0 0,.sy (.int 0 p.now)],(Hc p.l2 p.com2 p.b2 p.u2 p.d2_0 p.d2_1),12)
noncomputable def XI (p:Gn) (K:KE):Bool:=K .nilS (Hc p.l2 p.com2 p.b2 p.u2 p.d2_0 p.d2_1) 12
def lr (p:Gn):Prop:=0≤p.now∧p.now≤1000000
theorem aa1:Vf lr XI 1 Sa aJ eC Gg:=by
 intro p K hpre hK
 refine Eq.trans (b:=(let z0:Bool:=(K .nilS (Hc p.l2 p.com2 p.b2 p.u2 p.d2_0 p.d2_1) 12);iP (p.u2≤p.now) (cu z0) z0)) (by kernel_rfl) ?_
 dsimp only[lr]at hpre
 obtain⟨n0,n1⟩:=hpre
 apply iI<;>intro hc1
 refine bk ?_
 exact hK
 exact hK
noncomputable def nc_cf3_2_2:EE 50 1:=bA (fun us M=>aA (aA (Nat.beq (zC M 0 8) 2) (Nat.beq (zC M 0 1) 2)) (cT M 0 11)) (nE dm aa1) nc_ch3_2
noncomputable def JA:NN:=ck Sa nc_cf3_2_2.2 [(0,4),(1,20)]
noncomputable def acv (l2:List Ke) (com2 b2 u2 d2_0 d2_1:Int):T:=(n2 (n2 (n2 (n0 (nX 11 3 12 2)) (ig 8 2 2 9 l2.length b2 com2 10) (n0 (aE 0 1 2))) (QU 1 2 (l2.length:Int) []) (n2 (n0 (aO l2)) (aE 0 1 2) .leaf)) (nU 2 2 3 4 2 5 3 6 u2 7) (n2 (n2 (n0 gK) (bu 0) (n0 gK)) gK (n2 (n0 (Dq d2_0 d2_1)) (bL 0) .leaf)))
structure qb where (l2:List Ke) (com2 b2 u2 d2_0 d2_1 x_n x_c:Int) (x_vh:Value) (x_vl:List Int) (x_mh:Value) (x_ml:List Int) (x_h:Value) (x_l:List Ke) (x_th:Value) (x_tl:List Ke) (now:Int)
abbrev FP:=pr
def qC (p:qb) (r:FP):Prop:=r.l2=p.l2++p.x_l∧r.com2=max p.com2 (min p.x_c (r.l2.length:Int))
noncomputable def Tx (p:qb):IE:=([.ptr 0 0,.sy (.int 0 p.now),dL 1,eR 3 2 p.x_n p.x_c 0 [] 0 p.x_vh p.x_vl p.x_mh p.x_ml p.x_h p.x_l p.x_th p.x_tl],(Hc p.l2 p.com2 p.b2 p.u2 p.d2_0 p.d2_1),12)
noncomputable def qO (p:qb) (K:KE) (r:FP):Bool:=K (.sl 1 0 1 (.ex 1)) (acv r.l2 r.com2 p.b2 p.u2 p.d2_0 p.d2_1) 13
noncomputable def IK (p:qb) (K:KE):Bool:=ae fun r=>iP (qC p r) (qO p K r) true
def sX (p:qb):Prop:=0≤p.now∧p.now≤1000000∧p.x_vl=[]∧p.x_ml=[]∧p.x_tl=[]∧p.x_n=(p.l2.length:Int)∧bF p.x_l∧p.l2.length+p.x_l.length≤400∧p.b2≤(p.l2.length:Int)∧0≤p.x_c∧p.x_c≤400∧0≤p.b2
theorem lD {p:qb} {K:KE} (hK:IK p K=true) {r:FP} (h:qC p r:=by dsimp only[qC]<;>(first|(exfalso;omega)|(refine⟨?_,rfl⟩;rw[apS (show p.x_l.length=0 by omega)];simp;done)|(refine⟨?_,rfl⟩;rw[hv.1,show((p.l2.length:Int) - p.x_n).toNat=0 by omega];simp;done))):qO p K r=true:=ax h (aq hK r)
theorem aa9:Vf sX IK 1 JA aJ bZ Tx:=by
 intro p K hpre hK
 refine Eq.trans (b:=(let z0:Bool:=(qO p K ⟨p.l2,max p.com2 (min p.x_c (p.l2.length:Int))⟩);let z1:Bool:=(qO p K ⟨p.l2,p.com2⟩);aL Hx jO ⟨p.x_n,p.x_c,p.x_vh,p.x_vl,p.x_mh,p.x_ml,p.x_h,p.x_l,p.x_th,p.x_tl⟩ fun p1=>mP (aI 0 p.x_n) (mP (aI 0 p.x_c) (iP (p.x_n<p.b2) (mP (aI 3 (p.l2.length:Int)) z1) (iP ((p.l2.length:Int)<p.x_n) (mP (aI 3 (p.l2.length:Int)) z1) (mP (aI 0 ((400:Int) - p.x_n)) (iP ((400 - p.x_n)<(p.x_l.length:Int)) (mP (aI 3 (p.l2.length:Int)) z1) (mP (aI 0 ((p.l2.length:Int) - p.x_n)) (iP (((p.l2.length:Int) - p.x_n)<(p.x_l.length:Int)) (mP (0≤((p.l2.length:Int) - p.x_n)∧((p.l2.length:Int) - p.x_n)≤(p.x_l.length:Int)∧(p.x_l.length:Int)≤(p.x_l.length:Int)) (ay bT bp aQ ⟨fp p.x_h 18 (((p.l2.length:Int) - p.x_n).toNat) p.x_l.length,(p.x_l.drop (((p.l2.length:Int) - p.x_n).toNat)).take (p.x_l.length - (((p.l2.length:Int) - p.x_n).toNat))⟩ fun p2 r1=>mE (.prow 8 p.l2.length) (mP (r1.o.length=r1.o.length) (mP (p.l2.length=p.l2.length) (iP (r1.o=[]) (mP (aI 3 (p.l2.length:Int)) z0) (aM fun m1:List Ke=>mP (bg (m1.map au) (r1.o.map au)) (mP (bQ 104 (p.l2.length+m1.length)) (mP (aI 3 ((p.l2++m1).length:Int)) (qO p K ⟨p.l2++m1,max p.com2 (min p.x_c ((p.l2++m1).length:Int))⟩))))))))) (mP (aI 3 (p.l2.length:Int)) z0)))))))))) (by kernel_rfl) ?_
 dsimp only[sX]at hpre
 obtain⟨n0,n1,h_vl,h_ml,h_tl,hx⟩:=hpre
 have e_vl:=congrArg List.length h_vl
 have e_ml:=congrArg List.length h_ml
 have e_tl:=congrArg List.length h_tl
 simp only[apy]at e_vl e_ml e_tl
 obtain⟨hn,hks,hlen,hb,hq1,hq2,hb0⟩:=hx
 refine aV (by(try dsimp only[jO]);repeat(first|assumption|omega|apply And.intro)) ?_
 refine be (be ?_)
 apply iI<;>intro hc1
 refine be ?_
 exact lD hK
 apply iI<;>intro hc2
 refine be ?_
 exact lD hK
 refine be ?_
 apply iI<;>intro hc3
 refine be ?_
 exact lD hK
 refine be ?_
 apply iI<;>intro hc4
 refine cz ?_
 refine bW fun r1 hi5=> ?_
 dsimp only[aQ]at hi5
 have hv:=hi5
 have hlhi5:=hi5.2
 (try simp only[apL,apW]at hlhi5)
 refine aH (cz (aH ?_))
 apply iI<;>intro hc6
 have hc6l:(r1.o).length=0:=(by rw[hc6];rfl)
 refine be ?_
 exact lD hK
 have hc6l:0<(r1.o).length:=List.length_pos_iff.2 hc6
 refine aR r1.o ?_
 refine mI (show bg (r1.o.map au) (r1.o.map au) from cF _) (tZ (be ?_))
 exact lD hK
 refine be ?_
 exact lD hK
noncomputable def nc_ca3_2_2:EE 51 1:=bA (fun us M=>aA (aA (Nat.beq (zC M 0 8) 2) (Nat.beq (zC M 0 1) 2)) (cT M 0 11)) (nE bt aa9) eS
noncomputable def JI:NN:=bB JA nc_ca3_2_2.2 [(0,4),(1,20),(2,15),(3,15)] (fun us=>aA (Nat.beq (aC us 2 0) 1) (Nat.beq (aC us 3 0) 3))
structure pS where (l1:List Ke) (com1 b1 u c0 c1 x_n x_c:Int) (x_vh:Value) (x_vl:List Int) (x_mh:Value) (x_ml:List Int) (x_h:Value) (x_l:List Ke) (x_th:Value) (x_tl:List Ke) (now:Int)
structure Ab where (com1 c0 c1:Int)
def nf (p:pS) (r:Ab):Prop:=r.c0=(p.l1.length:Int)∧r.c1=max p.c1 p.x_n∧ib 2 p.com1 r.com1 [r.c0,r.c1]
noncomputable def Th (p:pS):IE:=([.ptr 0 0,.sy (.int 0 p.now),dL 2,eR 4 2 p.x_n p.x_c 0 [] 0 p.x_vh p.x_vl p.x_mh p.x_ml p.x_h p.x_l p.x_th p.x_tl],(acB p.l1 p.com1 p.b1 p.u p.c0 p.c1),12)
noncomputable def uO (p:pS) (K:KE) (r:Ab):Bool:=K .nilS (acB p.l1 r.com1 p.b1 p.u r.c0 r.c1) 12
noncomputable def IA (p:pS) (K:KE):Bool:=ae fun r=>iP (nf p r) (uO p K r) true
def sK (p:pS):Prop:=0≤p.now∧p.now≤1000000∧p.x_vl=[]∧p.x_ml=[]∧p.x_l=[]∧p.x_tl=[]∧0≤p.x_n∧p.x_n≤(p.l1.length:Int)∧p.l1.length≤400∧p.x_c=0∧0≤p.b1∧p.b1≤400
theorem Kp {p:pS} {K:KE} (hK:IA p K=true) {r:Ab} (h:nf p r):uO p K r=true:=ax h (aq hK r)
theorem aaT:Vf sK IA 1 JI aJ bZ Th:=by
 intro p K hpre hK
 refine Eq.trans (b:=(aL Hw jN ⟨p.x_n,p.x_c,p.x_vh,p.x_vl,p.x_mh,p.x_ml,p.x_h,p.x_l,p.x_th,p.x_tl⟩ fun p1=>mP (aI 0 ((400:Int) - p.b1)) (mP (aI 0 p.x_n) (iP ((p.l1.length:Int)<p.x_n) (uO p K ⟨p.com1,p.c0,p.c1⟩) (aM fun p2:kL=>mP (rf ⟨p.l1,p.com1,p.b1,p.c0,max p.c1 p.x_n⟩=rf p2) (ae fun r1:qZ=>iP (jb p2 r1) (uO {p with l1:=p2.l,b1:=p2.b} K ⟨r1.com,(p2.l.length:Int),p2.c1⟩) true)))))) (by kernel_rfl) ?_
 dsimp only[sK]at hpre
 obtain⟨n0,n1,h_vl,h_ml,h_l,h_tl,hx⟩:=hpre
 have e_vl:=congrArg List.length h_vl
 have e_ml:=congrArg List.length h_ml
 have e_l:=congrArg List.length h_l
 have e_tl:=congrArg List.length h_tl
 simp only[apy]at e_vl e_ml e_l e_tl
 obtain⟨hx1,hx2,hx3,hx4,hx5,hx6⟩:=hx
 refine aV (by(try dsimp only[jN]);repeat(first|assumption|omega|apply And.intro)) ?_
 refine be (be ?_)
 apply iI<;>intro hc1
 exact Kp hK (by dsimp only[nf]<;>(first|(exfalso;omega)|exact⟨rfl,rfl,hi0⟩))
 refine fu (.mk ..) rfl fun r1 hi2=> ?_
 dsimp only[jb]at hi2
 exact Kp (p:=p) hK (by dsimp only[nf]<;>(first|(exfalso;omega)|exact⟨rfl,rfl,hi2⟩))
noncomputable def nc_ck3_2_2:EE 51 1:=bA (fun us M=>aA (aA (Nat.beq (zC M 0 8) 1) (Nat.beq (zC M 0 1) 2)) (cT M 0 11)) (nE bt aaT) nc_ck3_1_2
noncomputable def Jr:NN:=bB JI nc_ck3_2_2.2 [(0,4),(1,20),(2,15),(3,15)] (fun us=>aA (Nat.beq (aC us 2 0) 2) (Nat.beq (aC us 3 0) 4))
abbrev PY:=pU
noncomputable def aad (p:PY):IE:=([.ptr 0 0,.sy (.int 0 p.now)],(CO p.l2 p.com2),11)
noncomputable def adt (p:PY) (K:KE):Bool:=K .nilS (CO p.l2 p.com2) 11
def zd (p:PY):Prop:=0≤p.now∧p.now≤1000000
theorem afG:Vf zd adt 1 Jr aJ eC aad:=by
 intro p K hpre hK
 refine Eq.trans (b:=(iP ((2:Int)≤p.now) (cu (K .nilS (CO p.l2 p.com2) 11)) (K .nilS (CO p.l2 p.com2) 11))) (by kernel_rfl) ?_
 dsimp only[zd]at hpre
 obtain⟨n0,n1⟩:=hpre
 apply iI<;>intro hc1
 refine bk ?_
 exact hK
 exact hK
noncomputable def nc_cs3_2:EE 50 1:=bA (fun us M=>aA (aA (Nat.beq (zC M 0 8) 2) (Nat.beq (zC M 0 1) 1)) (cT M 0 11)) (nE dm afG) nc_cf3_2_2
noncomputable def RX:NN:=ck Jr nc_cs3_2.2 [(0,4),(1,20)]
noncomputable def mw (l0:List Ke) (com0 g0 g1 g2:Int) (l1:List Ke) (com1:Int) (l2:List Ke) (com2:Int) (L:List Fx) (a o cp:Nat) (now cnt:Int):T:=(n2 (n2 (n2 (n2 (n2 (n0 (aO l2)) (aE 0 1 2) .leaf) (aE 0 1 2) (n0 (aO l0))) (nV L) (n2 (n0 (bu 0)) (bm true 25 3) (n0 (aO l1)))) QV (n2 (n2 (n2 (n0 (aE 0 1 2)) (aE 0 1 2) .leaf) (bu 0) (n0 (aE 0 1 2))) (eX 12 3 13 14 1 15 16) (n2 (n0 (bm true 33 3)) (bj 26 3 1 27 l1.length com1 false 28) (n0 (aE 0 1 2))))) (nW 3 a (L.length - a) o (some cp) now cnt) (n2 (n2 (n2 (n2 (n0 (cP 0 0 1 0 2 0)) (bm true 29 3) .leaf) (bj 22 3 0 23 l0.length com0 false 24) (n0 (cP 0 g0 1 g1 2 g2))) (eX 7 3 8 9 0 10 11) (n2 (n0 (aE 0 1 2)) (aE 0 1 2) (n0 (cP 0 0 1 0 2 0)))) (QW false) (n2 (n2 (n0 (bj 30 3 2 31 l2.length com2 false 32)) (aE 0 1 2) (n0 (aE 0 1 2))) (eX 17 3 18 19 2 20 21) (n2 (n0 (aE 0 1 2)) (bu 0) (n0 (aE 0 1 2))))))
def VP:XF:=DB
theorem XR:bN Tryz.prog 28 VP=true:=by kernel_rfl
structure nG where (l0:List Ke) (com0 g0 g1 g2:Int) (l1:List Ke) (com1 b1 u c0 c1:Int) (l2:List Ke) (com2 b2 u2 d2_0 d2_1:Int) (L:List Fx) (a o cp:Nat) (now cnt:Int)
abbrev Pa:=eJ
def ma (p:nG) (r:Pa):Prop:=∃h2,Ap r.L r.a p.L p.a [(⟨1,2,3,2,p.c1,p.com1,0,0,(.slice none 0 0),[],(.slice none 0 0),[],h2,p.l1.drop p.c1.toNat,(.slice none 0 0),[]⟩:Fx)]
noncomputable def Px (p:nG):IE:=([.ptr 0 0,.int 0 (.ofNat 1)],(fi p.l0 p.com0 p.g0 p.g1 p.g2 p.l1 p.com1 p.b1 p.u p.c0 p.c1 p.l2 p.com2 p.b2 p.u2 p.d2_0 p.d2_1 p.L p.a p.o p.cp p.now p.cnt),38)
noncomputable def Cq (p:nG) (K:KE) (r:Pa):Bool:=K (.tup []) (fi p.l0 p.com0 p.g0 p.g1 p.g2 p.l1 p.com1 p.b1 p.u p.c0 p.c1 p.l2 p.com2 p.b2 p.u2 p.d2_0 p.d2_1 r.L r.a r.o r.cp (p.now+1) p.cnt) 38
noncomputable def Qt (p:nG) (K:KE):Bool:=ae fun r=>iP (ma p r) (Cq p K r) true
def pe (p:nG):Prop:=Bs p.now p.L p.a∧p.l1.length≤400∧0≤p.com1∧p.com1≤400∧(0≤p.c1∧p.c1≤(p.l1.length:Int)∧(p.l1.length:Int)≤p.c1+16)
theorem Sn {p:nG} {K:KE} (hK:Qt p K=true) {r:Pa} (h:ma p r):Cq p K r=true:=ax h (aq hK r)
theorem aeY:Vf pe Qt 1 RX aJ VP Px:=by
 intro p K hpre hK
 refine Eq.trans (b:=(mP (aI 0 (p.now+1)) (ay aag zg xn ⟨p.l1,p.com1,p.b1,p.u,p.c0,p.c1,p.now+1⟩ fun p1 r1=>iP (((p.L.length - p.a:Nat):Int)<(400:Int)) (mE (.psub 3 33 p.a (p.L.length - p.a) p.o (some p.cp)) (mP (p.a+(p.L.length - p.a)=p.L.length) (aM fun m1:List Fx=>mP (bg (m1.map dA) (QT 1 2 2 p1.c1 p1.com1 [] r1.h2 r1.e2)) (mP (bQ 232 (p.L.length+m1.length)) (ae fun L1:List Fx=>ae fun d1:Nat=>ae fun o1:Nat=>ae fun u1:Nat=>iP (d1≤L1.length∧L1.length≤p.L.length+m1.length∧L1.drop d1=p.L.drop p.a++m1) (Cq {p with l1:=p1.l1,com1:=p1.com1,b1:=p1.b1,u:=p1.u,c0:=p1.c0,c1:=p1.c1} K ⟨L1,d1,o1,u1⟩) true))))) (Cq {p with l1:=p1.l1,com1:=p1.com1,b1:=p1.b1,u:=p1.u,c0:=p1.c0,c1:=p1.c1} K ⟨p.L,p.a,p.o,p.cp⟩)))) (by kernel_rfl) ?_
 dsimp only[pe]at hpre
 obtain⟨⟨n0,n1,n2,n3,n4⟩,hx⟩:=hpre
 obtain⟨hx1,hx2,hx3,⟨u2,v2,w2⟩⟩:=hx
 refine dc ?_
 refine aF (by(try dsimp only[zg]);repeat(first|assumption|omega|apply And.intro)) fun r1 hi1=> ?_
 dsimp only[xn]at hi1 ⊢
 have hv:=hi1
 apply iI<;>intro hc2
 refine aH (aX ?_)
 refine aR ([⟨1,2,3,2,p.c1,p.com1,0,0,(.slice none 0 0),[],(.slice none 0 0),[],r1.h2,r1.e2,(.slice none 0 0),[]⟩]:List Fx) ?_
 refine fv (eU ?_)
 refine ac fun L1=> ?_
 refine ac fun d1=> ?_
 refine ac fun o1=> ?_
 refine ac fun u1=> ?_
 refine iJ fun hi3=> ?_
 have apL1:=fw hi3
 have lnL1:=apL1.len
 exact Sn (p:=p) hK (by dsimp only[ma]<;>(first|(exfalso;omega)|(exfalso;simp only[apw,apy]at*;omega)|(have ap:=apL1;(try simp only[apC,apD]at ap);(rw[hv]at ap;exact⟨_,ap⟩))))
 exact Sn (p:=p) hK (by dsimp only[ma]<;>(first|(exfalso;omega)|(exfalso;simp only[apw,apy]at*;omega)|(have ap:=Ap.nil (by omega);(try simp only[apC,apD]at ap);(rw[hv]at ap;exact⟨_,ap⟩))))
noncomputable def nc_zh3_2:EE 28 1:=bA (fun us M=>Nat.beq (zC M 5 1) 2) (nE XR aeY) nc_zt3
noncomputable def Rl:NN:=bB RX nc_zh3_2.2 [(0,4),(1,1)] (fun us=>Nat.beq (gi us 1) 1)
def CE:XF:=DA
theorem Dv:bN Tryz.prog 29 CE=true:=by kernel_rfl
structure mG where (l0:List Ke) (com0 g0 g1 g2:Int) (l1:List Ke) (com1 b1 u c0 c1:Int) (l2:List Ke) (com2 b2 u2 d2_0 d2_1:Int) (L:List Fx) (a o cp:Nat) (now cnt x_n x_c:Int) (x_vh:Value) (x_vl:List Int) (x_mh:Value) (x_ml:List Int) (x_h:Value) (x_l:List Ke) (x_th:Value) (x_tl:List Ke)
structure pq where (l2:List Ke) (com2:Int) (L:List Fx) (a o cp:Nat)
def iq (p:mG) (r:pq):Prop:=r.l2=p.l2++p.x_l∧r.com2=max p.com2 (min p.x_c (r.l2.length:Int))∧Ap r.L r.a p.L p.a [(⟨2,1,4,2,(r.l2.length:Int),0,0,0,(.slice none 0 0),[],(.slice none 0 0),[],(.slice none 0 0),[],(.slice none 0 0),[]⟩:Fx)]
noncomputable def FV (p:mG):IE:=([.ptr 0 0,hU 1 2 3 2 p.x_n p.x_c 0 [] 0 p.x_vh p.x_vl p.x_mh p.x_ml p.x_h p.x_l p.x_th p.x_tl],(fi p.l0 p.com0 p.g0 p.g1 p.g2 p.l1 p.com1 p.b1 p.u p.c0 p.c1 p.l2 p.com2 p.b2 p.u2 p.d2_0 p.d2_1 p.L p.a p.o p.cp p.now p.cnt),38)
noncomputable def uG (p:mG) (K:KE) (r:pq):Bool:=K (.tup []) (fi p.l0 p.com0 p.g0 p.g1 p.g2 p.l1 p.com1 p.b1 p.u p.c0 p.c1 r.l2 r.com2 p.b2 p.u2 p.d2_0 p.d2_1 r.L r.a r.o r.cp p.now p.cnt) 38
noncomputable def Io (p:mG) (K:KE):Bool:=ae fun r=>iP (iq p r) (uG p K r) true
def lg (p:mG):Prop:=Bs p.now p.L p.a∧p.x_vl=[]∧p.x_ml=[]∧p.x_tl=[]∧p.x_n=(p.l2.length:Int)∧bF p.x_l∧p.l2.length+p.x_l.length≤400∧p.b2≤(p.l2.length:Int)∧0≤p.x_c∧p.x_c≤400∧0≤p.b2
theorem Kc {p:mG} {K:KE} (hK:Io p K=true) {r:pq} (h:iq p r):uG p K r=true:=ax h (aq hK r)
theorem aaD:Vf lg Io 1 Rl aJ CE FV:=by
 intro p K hpre hK
 refine Eq.trans (b:=(mE (.int 0 p.now) (aa (qL [qI 3 p.x_n,qI 3 p.x_c,qY ((.imm p.x_vh 2 Int p.x_vl aG)),qY ((.imm p.x_mh 2 Int p.x_ml aG)),qY ((.imm p.x_h 18 Ke p.x_l au)),qY ((.imm p.x_th 18 Ke p.x_tl au))]) (ay Tx sX qC ⟨p.l2,p.com2,p.b2,p.u2,p.d2_0,p.d2_1,p.x_n,p.x_c,p.x_vh,p.x_vl,p.x_mh,p.x_ml,p.x_h,p.x_l,p.x_th,p.x_tl,p.now⟩ fun p1 r1=>iP (((p.L.length - p.a:Nat):Int)<(400:Int)) (mE (.psub 3 33 p.a (p.L.length - p.a) p.o (some p.cp)) (mP (p.a+(p.L.length - p.a)=p.L.length) (aM fun m1:List Fx=>mP (bg (m1.map dA) (QS 2 1 2 (r1.l2.length:Int) [])) (mP (bQ 232 (p.L.length+m1.length)) (ae fun L1:List Fx=>ae fun d1:Nat=>ae fun o1:Nat=>ae fun u1:Nat=>iP (d1≤L1.length∧L1.length≤p.L.length+m1.length∧L1.drop d1=p.L.drop p.a++m1) (uG {p with b2:=p1.b2,u2:=p1.u2,d2_0:=p1.d2_0,d2_1:=p1.d2_1} K ⟨r1.l2,r1.com2,L1,d1,o1,u1⟩) true))))) (uG {p with b2:=p1.b2,u2:=p1.u2,d2_0:=p1.d2_0,d2_1:=p1.d2_1} K ⟨r1.l2,r1.com2,p.L,p.a,p.o,p.cp⟩))))) (by kernel_rfl) ?_
 dsimp only[lg]at hpre
 obtain⟨⟨n0,n1,n2,n3,n4⟩,hx⟩:=hpre
 obtain⟨hx1,hx2,hx3,hn,hks,hlen,hb,hq1,hq2,hb0⟩:=hx
 refine aH ?_
 refine cq ?_
 refine aF (by(try dsimp only[sX]);repeat(first|assumption|omega|apply And.intro)) fun r1 hi1=> ?_
 dsimp only[qC]at hi1 ⊢
 have hv:=hi1
 apply iI<;>intro hc2
 refine aH (aX ?_)
 refine aR ([⟨2,1,4,2,(r1.l2.length:Int),0,0,0,(.slice none 0 0),[],(.slice none 0 0),[],(.slice none 0 0),[],(.slice none 0 0),[]⟩]:List Fx) ?_
 refine fv (eU ?_)
 refine ac fun L1=> ?_
 refine ac fun d1=> ?_
 refine ac fun o1=> ?_
 refine ac fun u1=> ?_
 refine iJ fun hi3=> ?_
 have apL1:=fw hi3
 have lnL1:=apL1.len
 exact Kc (p:=p) hK (by dsimp only[iq]<;>(first|(exfalso;omega)|(exfalso;simp only[apw,apy]at*;omega)|(have ap:=apL1;(try simp only[apC,apD]at ap);exact⟨hv.1,hv.2,ap⟩)))
 exact Kc (p:=p) hK (by dsimp only[iq]<;>(first|(exfalso;omega)|(exfalso;simp only[apw,apy]at*;omega)|(have ap:=Ap.nil (by omega);(try simp only[apC,apD]at ap);exact⟨hv.1,hv.2,ap⟩)))
noncomputable def Jd:NN:=bB Rl (nE Dv aaD) [(0,4),(1,15)] (fun us=>aA (aA (Nat.beq (aC us 1 0) 1) (Nat.beq (aC us 1 1) 2)) (Nat.beq (aC us 1 2) 3))
abbrev pE:=mG
structure zV where (com1 c0 c1:Int) (L:List Fx) (a o cp:Nat)
def ku (p:pE) (r:zV):Prop:=r.c0=(p.l1.length:Int)∧r.c1=max p.c1 p.x_n∧ib 2 p.com1 r.com1 [r.c0,r.c1]∧Ap r.L r.a p.L p.a []
noncomputable def FS (p:pE):IE:=([.ptr 0 0,hU 2 1 4 2 p.x_n p.x_c 0 [] 0 p.x_vh p.x_vl p.x_mh p.x_ml p.x_h p.x_l p.x_th p.x_tl],(fi p.l0 p.com0 p.g0 p.g1 p.g2 p.l1 p.com1 p.b1 p.u p.c0 p.c1 p.l2 p.com2 p.b2 p.u2 p.d2_0 p.d2_1 p.L p.a p.o p.cp p.now p.cnt),38)
noncomputable def Cn (p:pE) (K:KE) (r:zV):Bool:=K (.tup []) (fi p.l0 p.com0 p.g0 p.g1 p.g2 p.l1 r.com1 p.b1 p.u r.c0 r.c1 p.l2 p.com2 p.b2 p.u2 p.d2_0 p.d2_1 r.L r.a r.o r.cp p.now p.cnt) 38
noncomputable def If (p:pE) (K:KE):Bool:=ae fun r=>iP (ku p r) (Cn p K r) true
def kX (p:pE):Prop:=Bs p.now p.L p.a∧p.x_vl=[]∧p.x_ml=[]∧p.x_l=[]∧p.x_tl=[]∧0≤p.x_n∧p.x_n≤(p.l1.length:Int)∧p.l1.length≤400∧p.x_c=0∧0≤p.b1∧p.b1≤400
theorem Yj {p:pE} {K:KE} (hK:If p K=true) {r:zV} (h:ku p r):Cn p K r=true:=ax h (aq hK r)
theorem aav:Vf kX If 1 Jd aJ CE FS:=by
 intro p K hpre hK
 refine Eq.trans (b:=(mE (.int 0 p.now) (aa (qL [qI 3 p.x_n,qI 3 p.x_c,qY ((.imm p.x_vh 2 Int p.x_vl aG)),qY ((.imm p.x_mh 2 Int p.x_ml aG)),qY ((.imm p.x_h 18 Ke p.x_l au)),qY ((.imm p.x_th 18 Ke p.x_tl au))]) (ay Th sK nf ⟨p.l1,p.com1,p.b1,p.u,p.c0,p.c1,p.x_n,p.x_c,p.x_vh,p.x_vl,p.x_mh,p.x_ml,p.x_h,p.x_l,p.x_th,p.x_tl,p.now⟩ fun p1 r1=>Cn {p with l1:=p1.l1,b1:=p1.b1,u:=p1.u} K ⟨r1.com1,r1.c0,r1.c1,p.L,p.a,p.o,p.cp⟩)))) (by kernel_rfl) ?_
 dsimp only[kX]at hpre
 obtain⟨⟨n0,n1,n2,n3,n4⟩,hx⟩:=hpre
 obtain⟨hx1,hx2,hx3,hx4,hx5,hx6,hx7,hx8,hx9,hx10⟩:=hx
 refine aH ?_
 refine cq ?_
 refine aF (by(try dsimp only[sK]);repeat(first|assumption|omega|apply And.intro)) fun r1 hi1=> ?_
 dsimp only[nf]at hi1 ⊢
 have hv:=hi1
 exact Yj (p:=p) hK (by dsimp only[ku]<;>(first|(exfalso;omega)|(exfalso;simp only[apw,apy]at*;omega)|(have ap:=Ap.nil (by omega);(try simp only[apC,apD]at ap);exact⟨hv.1,hv.2.1,hv.2.2,ap⟩)))
noncomputable def nat_zk3_2_2:NN:=bB Jd (nE Dv aav) [(0,4),(1,15)] (fun us=>aA (aA (Nat.beq (aC us 1 0) 2) (Nat.beq (aC us 1 1) 1)) (Nat.beq (aC us 1 2) 4))
def w_6:=fun v0 v1 v2 v3 v4 v5=>((.aft (.seq (.seq (g_ 3 [p_ 0 8 (m_ 4),p_ 1 9 (m_ 1),p_ 2 10 (.bin 3 0 (.t 8) (.t 9))]) (.cond (.t 10) .skip (.exit 2))) (.seq (.block 3 (.seq (.seq (g_ 1 [p_ 0 5 (.mv (i_ 0))]) (.block 4 (.loop [0,1,4,5,6,7,8,9,10,11,12,13,14,15,16,17,18,19,20,21,22,23,25,26,27,28,29,30,31,32,33,34,35,36,37,38,39,40,41,42,43,44,45,46,47,48,49,50,51,52] (.seq (.seq (g_ 7 [p_ 0 13 (m_ 5),p_ 1 14 (m_ 0),p_ 2 15 (n_ 14),p_ 3 16 (f_ 0 15),r_ 4 17 (l_ 16),p_ 5 18 (k_ 17),p_ 6 19 (.bin 3 0 (.t 13) (.t 18))]) (.cond (.t 19) .skip (.exit 4))) (.seq (.block 5 (g_ 3 [p_ 0 22 (m_ 0),p_ 1 23 (m_ 5),c_ 2 24 28 [.t 22,.t 23]])) (g_ 3 [p_ 0 20 (m_ 5),p_ 1 21 (.bin 0 0 (.t 20) (i_ 1)),p_ 2 5 (m_ 21)])))))) (.seq (g_ 1 [p_ 0 6 (.mv (i_ 0))]) (.block 6 (.loop [0,1,4,5,6,7,8,9,10,11,12,13,14,15,16,17,18,19,20,21,22,23,25,26,27,28,29,30,31,32,33,34,35,36,37,38,39,40,41,42,43,44,45,46,47,48,49,50,51,52] (.seq (.seq (.aft (g_ 10 [p_ 0 25 (m_ 6),p_ 1 26 (.bin 3 0 (.t 25) (i_ 3000)),p_ 2 27 (m_ 26),ah 3 28 27 true (m_ 0),ah 4 29 27 true (n_ 28),ah 5 30 27 true (f_ 2 29),aT 6 31 27 true (l_ 30),ah 7 32 27 true (k_ 31),ah 8 33 27 true (.bin 3 2 (.t 32) (i_ 0)),p_ 9 34 (.pick (.t 27) (.t 33) F_)]) [(0,[.fixb 34 6 4 v0 v0])]) (.cond (.t 34) .skip (.exit 6))) (.seq (.block 7 (.seq (.aft (g_ 8 [p_ 0 37 (m_ 0),p_ 1 38 (n_ 37),p_ 2 39 (f_ 2 38),r_ 3 40 (l_ 39),p_ 4 41 (.ixs 33 (.t 40) (i_ 0)),r_ 5 42 (.ld true 33 (.t 41)),e_ 6 7 (.al 76 [o_ 0,o_ 0,j_ 1 0,j_ 1 0,j_ 1 0,j_ 3 0,j_ 3 0,j_ 3 0,j_ 3 0,j_ 4 0,j_ 4 0,j_ 1 0,j_ 2 0,j_ 3 0,j_ 1 0,j_ 1 0,j_ 1 0,j_ 1 0,j_ 1 0,j_ 1 0,j_ 1 0,.nilS,j_ 1 0,.str [],j_ 1 0,j_ 3 0,.nilS,j_ 1 0,j_ 2 0,.bool false,.nilS,.nilS,.nilS]),aK 7 (.st 33 (.t 7) (.t 42))]) [(0,[.fixq 7 0 6 4 v1 v1,.fixq 7 1 6 4 v2 v2,.fixq 7 2 6 4 v3 v3,.fixq 7 5 6 4 v4 v4,.fixq 7 9 6 4 v5 v5,.fixq 7 25 6 4 v5 v5])]) (.seq (g_ 9 [p_ 0 43 (m_ 0),p_ 1 44 (m_ 0),p_ 2 45 (n_ 44),p_ 3 46 (f_ 2 45),r_ 4 47 (l_ 46),r_ 5 48 (.sls 33 (.t 47) (some (i_ 1)) none none),p_ 6 49 (n_ 43),p_ 7 50 (f_ 2 49),aK 8 (.st 1 (.t 50) (.t 48))]) (g_ 3 [p_ 0 51 (m_ 0),r_ 1 52 (.ld true 33 (.t 7)),c_ 2 53 29 [.t 51,.t 52]])))) (g_ 3 [p_ 0 35 (m_ 6),p_ 1 36 (.bin 0 0 (.t 35) (i_ 1)),p_ 2 6 (m_ 36)])))))))) (g_ 3 [p_ 0 11 (m_ 4),p_ 1 12 (.bin 0 0 (.t 11) (i_ 1)),p_ 2 4 (m_ 12)]))) [(0,[.can 1 [0,1,4]]),(2,[.can 1 []])]):XC)
def CJ:XC:=w_6 2 [1,2] [2,1] [3,4] [2,2] [0,0]
def VU:XF:=.mk 54 .none (.seq (g_ 1 [p_ 0 4 (.mv (i_ 0))]) (.block 2 (.pre [.can 1 [0,1,4],.up 4,.can 1 [0,1,4]] (.inv 0 CJ))))
theorem XV:bN Tryz.prog 15 VU=true:=by kernel_rfl
structure eW where (l0:List Ke) (com0 g0 g1 g2:Int) (l1:List Ke) (com1 b1 u c0 c1:Int) (l2:List Ke) (com2 b2 u2 d2_0 d2_1:Int) (L:List Fx) (a o cp:Nat) (now cnt t:Int)
structure tV where (com1 c0 c1:Int) (l2:List Ke) (com2:Int) (L:List Fx) (a o cp:Nat) (now:Int)
def iu (p:eW) (r:tV):Prop:=r.l2=p.l1∧r.com1=(p.l1.length:Int)∧r.com2=(p.l1.length:Int)∧r.c1=(p.l1.length:Int)∧r.a=r.L.length∧(r.L.length:Int)≤p.L.length+16*(10 - p.t)∧0≤r.now∧r.now=p.now+3*(10 - p.t)
noncomputable def gP (p:eW):IL:=((.cons 4 (.sy (.int 0 p.t)) (.cons 1 (.int 0 (.ofNat 10)) (.cons 0 (.ptr 0 0) .nil))),(fi p.l0 p.com0 p.g0 p.g1 p.g2 p.l1 p.com1 p.b1 p.u p.c0 p.c1 p.l2 p.com2 p.b2 p.u2 p.d2_0 p.d2_1 p.L p.a p.o p.cp p.now p.cnt),38)
noncomputable def Cv (p:eW) (K:KC) (r:tV):Bool:=K 2 .nil (fi p.l0 p.com0 p.g0 p.g1 p.g2 p.l1 r.com1 p.b1 p.u r.c0 r.c1 r.l2 r.com2 p.b2 p.u2 p.d2_0 p.d2_1 r.L r.a r.o r.cp r.now p.cnt) 38
noncomputable def tc (p:eW) (K:KC):Bool:=ae fun r=>iP (iu p r) (Cv p K r) true
def ja (p:eW):Prop:=(0≤p.t∧p.t≤10)∧(0≤p.now∧p.now+3*(10 - p.t)≤999000)∧(p.a=p.L.length∧(p.L.length:Int)+16*(10 - p.t)≤900000)∧(bF p.l1∧p.l1.length≤400∧0≤p.com1∧p.com1≤(p.l1.length:Int))∧(p.c1=(p.l2.length:Int)∧p.l2++p.l1.drop p.l2.length=p.l1∧p.l1.length≤p.l2.length+16∧0≤p.com2∧p.com2≤(p.l2.length:Int))∧(0≤p.b1∧p.b1≤(p.l1.length:Int))∧(0≤p.b2∧p.b2≤(p.l2.length:Int))∧((1≤p.t→p.com1=(p.l1.length:Int)∧p.l2.length=p.l1.length))∧((2≤p.t→p.com2=(p.l1.length:Int)))
theorem Yp {p:eW} {K:KC} (hK:tc p K=true) {r:tV} (h:iu p r):Cv p K r=true:=ax h (aq hK r)
noncomputable def ul (p:eW) (K:KC):Bool:=aa (aN (ja p)) (tc p K)
noncomputable def BZ:fx:=fun j S M nx K=>(Bool.rec (false) (aM fun p:eW=>aa (aN ((S,M,nx)=gP p)) (ul p K)) (Nat.beq j 0))
def gH (p:eW):Nat:=(10 - p.t).toNat
noncomputable def Nr (s:IL) (n:Nat) (K:KC):Bool:=aM fun q=>mP (s=gP q∧gH q<n) (ul q K)
theorem acj {p q:eW} {K:KC} (hm:gH q<gH p:=by dsimp only[gH]<;>(omega)) (hp:ja q:=by dsimp only[ja]<;>(repeat(first|with_reducible assumption|apply And.intro|(apply dS;with_reducible assumption)|(apply bD<;>with_reducible assumption)|exact y_1 (by assumption)|exact y_2 (by assumption)|exact y_3 (by assumption)|intro _|omega))) (hK:tc q K=true:=by exact(by refine ac fun r=>iI (fun hz=> ?_) (fun _=>rfl);dsimp only[iu]at hz;obtain⟨z0,z1,z2,z3,z4,zL,zn0,zn⟩:=hz;exact ax (show iu p r from(by dsimp only[iu];exact⟨z0,z1,z2,z3,z4,by omega,zn0,by omega⟩)) (aq hK r))):Nr (gP q) (gH p) K=true:=aR q (bC ⟨rfl,hm⟩ (bC hp hK))
theorem abd (p:eW) (K:KC) (hpre:ja p) (hK:tc p K=true):(dj (gN nat_zk3_2_2.1) BZ 600 CJ (gP p).1 (gP p).2.1 (gP p).2.2 (fun e S M nx=>Nat.casesOn e (aM fun q:eW=>aa (aN ((S,M,nx)=gP q∧gH q<gH p)) (ul q K)) (fun e2=>K (Nat.succ e2) S M nx)))=true:=by
 refine Eq.trans (b:=(iP (p.t<(10:Int)) (mP (aI 0 (p.now+1)) (ay Px pe ma ⟨p.l0,p.com0,p.g0,p.g1,p.g2,p.l1,p.com1,p.b1,p.u,p.c0,p.c1,p.l2,p.com2,p.b2,p.u2,p.d2_0,p.d2_1,p.L,p.a,p.o,p.cp,p.now+1,p.cnt⟩ fun p1 r1=>mP (aI 0 ((p1.now+1)+1)) (aL Gg lr ⟨p1.l2,p1.com2,p1.b2,p1.u2,p1.d2_0,p1.d2_1,(p1.now+1)+1⟩ fun p2=>rd r1.L r1.a (r1.L.length - r1.a) fun x1=>fR x1 1 2 3 2 0 0 (mL (r1.L.length - r1.a) (ay FV lg iq ⟨p1.l0,p1.com0,p1.g0,p1.g1,p1.g2,p1.l1,p1.com1,p1.b1,p1.u,p1.c0,p1.c1,p2.l2,p2.com2,p2.b2,p2.u2,p2.d2_0,p2.d2_1,r1.L,r1.a+1,(if r1.cp=r1.a then r1.o else r1.a*33),r1.cp,(p1.now+1)+1,p1.cnt,x1.n,x1.c,x1.vh,x1.vl,x1.mh,x1.ml,x1.h,x1.l,x1.th,x1.tl⟩ fun p3 r2=>rd r2.L r2.a (r2.L.length - r2.a) fun x2=>fR x2 2 1 4 2 0 0 (mL (r2.L.length - r2.a) (ay FS kX ku ⟨p3.l0,p3.com0,p3.g0,p3.g1,p3.g2,p3.l1,p3.com1,p3.b1,p3.u,p3.c0,p3.c1,r2.l2,r2.com2,p3.b2,p3.u2,p3.d2_0,p3.d2_1,r2.L,r2.a+1,(if r2.cp=r2.a then r2.o else r2.a*33),r2.cp,p3.now,p3.cnt,x2.n,x2.c,x2.vh,x2.vl,x2.mh,x2.ml,x2.h,x2.l,x2.th,x2.tl⟩ fun p4 r3=>mP (¬((0:Int)<((r3.L.length - r3.a:Nat):Int))) (mP (aI 0 (p.t+1)) (Nr (gP ⟨p4.l0,p4.com0,p4.g0,p4.g1,p4.g2,p4.l1,r3.com1,p4.b1,p4.u,r3.c0,r3.c1,p4.l2,p4.com2,p4.b2,p4.u2,p4.d2_0,p4.d2_1,r3.L,r3.a,r3.o,r3.cp,p4.now,p4.cnt,p.t+1⟩) (gH p) K))))))))) (Cv p K ⟨p.com1,p.c0,p.c1,p.l2,p.com2,p.L,p.a,p.o,p.cp,p.now⟩))) (by kernel_rfl) ?_
 dsimp only[ja]at hpre
 obtain⟨⟨i0_0,i0_1⟩,⟨i1_0,i1_1⟩,⟨i2_0,i2_1⟩,⟨i3_0,i3_1,i3_2,i3_3⟩,⟨i4_0,i4_1,i4_2,i4_3,i4_4⟩,⟨i5_0,i5_1⟩,⟨i6_0,i6_1⟩,ip1,ip2⟩:=hpre
 have pl2:=jz i4_1
 have dq:p.L.drop p.a=[]:=List.drop_eq_nil_of_le (by omega)
 have ld:=congrArg List.length dq
 have lz:=apM p.L.length
 have la:=apM p.a
 apply iI<;>intro hc1
 refine dc ?_
 refine aF (by(try dsimp only[pe]);repeat(first|with_reducible assumption|apply And.intro|(apply dM<;>with_reducible assumption)|(apply bD<;>with_reducible assumption)|omega)) fun r1 hi2=> ?_
 dsimp only[ma]at hi2 ⊢
 obtain⟨_,aphi2⟩:=hi2
 replace dq:=dP dq aphi2 lz
 clear aphi2 la lz ld
 obtain⟨dq,la,lz,ld⟩:=dq
 (try simp only[apC,apD,List.append_nil,apw,apy]at dq ld lz)
 refine dc ?_
 refine aV (by(try dsimp only[lr]);repeat(first|assumption|omega|apply And.intro)) ?_
 dsimp only
 refine cx (by omega) (by omega) fun x1 hi3=> ?_
 (try clear lx lc lq nl nt f_n f_vl f_ml f_tl)
 replace dq:=dl dq hi3
 clear hi3 ld
 obtain⟨f6,f_n,lc,f_vl,f_ml,lx,f_tl,dq,lq,ld,nl,nt⟩:=dq
 (try simp only[apW,apw,apy]at ld nl nt)
 refine cy f6 ?_
 clear f6
 refine cz ?_
 refine aF (by(try dsimp only[lg]);repeat(first|with_reducible assumption|apply And.intro|(apply dM<;>with_reducible assumption)|(apply bD<;>with_reducible assumption)|omega)) fun r2 hi4=> ?_
 dsimp only[iq]at hi4 ⊢
 obtain⟨ea,ec,ap⟩:=hi4
 replace dq:=dP dq ap lz
 clear ap la lz ld
 obtain⟨dq,la,lz,ld⟩:=dq
 (try simp only[apC,apD,List.append_nil,apw,apy]at dq ld lz)
 have ew_2:=wx ea lx i4_0 i4_1
 have en_2:=congrArg List.length ew_2
 clear ea
 have eo:=xy ec lc (by rw[en_2]) i3_3 (by omega:p.com2≤(p.l1.length:Int))
 clear ec
 obtain⟨u_2,v_2,Qb⟩:=Dz eo en_2 i4_3
 have y_2:=Dy ip1 eo
 clear eo
 (try clear ip2)
 clear i4_2 i4_3 i4_4
 refine cx (by omega) (by omega) fun x2 hi5=> ?_
 (try clear lx lc lq nl nt f_n f_vl f_ml f_tl)
 replace dq:=dl dq hi5
 clear hi5 ld
 obtain⟨f6,f_n,lc,f_vl,f_ml,lx,f_tl,dq,lq,ld,nl,nt⟩:=dq
 (try simp only[apW,apw,apy]at ld nl nt)
 refine cy f6 ?_
 clear f6
 refine cz ?_
 refine aF (by(try dsimp only[kX]);repeat(first|with_reducible assumption|apply And.intro|(apply dM<;>with_reducible assumption)|(apply bD<;>with_reducible assumption)|omega)) fun r3 hi6=> ?_
 dsimp only[ku]at hi6 ⊢
 obtain⟨eh,ej,er,ap⟩:=hi6
 replace dq:=dP dq ap lz
 clear ap la lz ld
 obtain⟨dq,la,lz,ld⟩:=dq
 (try simp only[apC,apD,List.append_nil,apw,apy]at dq ld lz)
 have ek_2:=mj (m:=(p.l1.length:Int)) ej (by omega) (by omega)
 clear ej
 have eb_2:=oO (gB (m:=(p.l1.length:Int)) er (by omega) (by intro x hx;simp only[apF,apU,or_false]at hx<;>omega)) (by omega)
 have ee:=mj (BA (m:=(p.l1.length:Int)) er (by omega) (by simp only[apw,apy];omega) (by intro x hx;simp only[apF,apU,or_false]at hx<;>omega)) rfl (by omega)
 clear er
 have k_2:=Dx ek_2 en_2
 (try clear eb_2);(try clear ek_2);(try clear i4_0);(try clear i4_1);(try clear ip1)
 refine aX (dc ?_)
 exact acj
 exact Yp hK (by dsimp only[iu]<;>(first|(exfalso;omega)|(obtain⟨q1,q1_2⟩:=ip1 (by omega);have q2:=ip2 (by omega);repeat(first|assumption|omega|(apply Oe<;>first|assumption|omega)|apply And.intro))))
theorem abU:eE Tryz.prog 54 1 BZ true 0 CJ:=by
 exact js (lf:=600) bK (bR nat_zk3_2_2.2) (by rfl) gP gH ul (fun b j x h=>by cases h) (fun S M nx K h=>by obtain⟨p,h⟩:=cd h;exact⟨p,(ai h).1,(ai h).2⟩) (fun p K h=>abd p K (ai h).1 (ai h).2)
abbrev vY:=nG
abbrev Pp:=tV
def wV (p:vY) (r:Pp):Prop:=r.l2=p.l1∧r.com1=(p.l1.length:Int)∧r.com2=(p.l1.length:Int)∧r.c1=(p.l1.length:Int)∧r.a=r.L.length∧(r.L.length:Int)≤p.L.length+16*(10 - 0)∧0≤r.now∧r.now=p.now+3*(10 - 0)
noncomputable def PD (p:vY):IE:=([.ptr 0 0,.int 0 (.ofNat 10)],(fi p.l0 p.com0 p.g0 p.g1 p.g2 p.l1 p.com1 p.b1 p.u p.c0 p.c1 p.l2 p.com2 p.b2 p.u2 p.d2_0 p.d2_1 p.L p.a p.o p.cp p.now p.cnt),38)
noncomputable def Ll (p:vY) (K:KE) (r:Pp):Bool:=K (.tup []) (fi p.l0 p.com0 p.g0 p.g1 p.g2 p.l1 r.com1 p.b1 p.u r.c0 r.c1 r.l2 r.com2 p.b2 p.u2 p.d2_0 p.d2_1 r.L r.a r.o r.cp r.now p.cnt) 38
noncomputable def DX (p:vY) (K:KE):Bool:=ae fun r=>iP (wV p r) (Ll p K r) true
def tD (p:vY):Prop:=(0≤(0:Int)∧(0:Int)≤10)∧(0≤p.now∧p.now+3*(10 - (0:Int))≤999000)∧(p.a=p.L.length∧(p.L.length:Int)+16*(10 - (0:Int))≤900000)∧(bF p.l1∧p.l1.length≤400∧0≤p.com1∧p.com1≤(p.l1.length:Int))∧(p.c1=(p.l2.length:Int)∧p.l2++p.l1.drop p.l2.length=p.l1∧p.l1.length≤p.l2.length+16∧0≤p.com2∧p.com2≤(p.l2.length:Int))∧(0≤p.b1∧p.b1≤(p.l1.length:Int))∧(0≤p.b2∧p.b2≤(p.l2.length:Int))
theorem aec {p:vY} {K:KE} (hK:DX p K=true) {r:Pp} (h:wV p r):Ll p K r=true:=ax h (aq hK r)
theorem afo:Vf tD DX 1 nat_zk3_2_2 BZ VU PD:=by
 intro p K hpre hK
 refine Eq.trans (b:=(ay gP ja iu ⟨p.l0,p.com0,p.g0,p.g1,p.g2,p.l1,p.com1,p.b1,p.u,p.c0,p.c1,p.l2,p.com2,p.b2,p.u2,p.d2_0,p.d2_1,p.L,p.a,p.o,p.cp,p.now,p.cnt,0⟩ fun p1 r1=>Ll {p with l0:=p1.l0,com0:=p1.com0,g0:=p1.g0,g1:=p1.g1,g2:=p1.g2,l1:=p1.l1,b1:=p1.b1,u:=p1.u,b2:=p1.b2,u2:=p1.u2,d2_0:=p1.d2_0,d2_1:=p1.d2_1,cnt:=p1.cnt} K ⟨r1.com1,r1.c0,r1.c1,r1.l2,r1.com2,r1.L,r1.a,r1.o,r1.cp,r1.now⟩)) (by kernel_rfl) ?_
 dsimp only[tD]at hpre
 obtain⟨⟨i0_0,i0_1⟩,⟨i1_0,i1_1⟩,⟨i2_0,i2_1⟩,⟨i3_0,i3_1,i3_2,i3_3⟩,⟨i4_0,i4_1,i4_2,i4_3,i4_4⟩,⟨i5_0,i5_1⟩,⟨i6_0,i6_1⟩⟩:=hpre
 have pl2:=jz i4_1
 refine aF (by(try dsimp only[ja]);repeat(first|with_reducible assumption|apply And.intro|(apply dS;with_reducible assumption)|(apply bD<;>with_reducible assumption)|exact y_1 (by assumption)|exact y_2 (by assumption)|exact y_3 (by assumption)|intro _|omega)) fun r1 hi1=> ?_
 dsimp only[iu]at hi1 ⊢
 exact aec (p:=p) hK (by dsimp only[wV]<;>(obtain⟨z0,z1,z2,z3,z4,zL,zn0,zn⟩:=hi1;exact⟨z0,z1,z2,z3,z4,by omega,zn0,by omega⟩))
theorem Vb:dH Tryz.prog 15 1 (lM PD (Dn tD DX)):=(cB (f:=15) (k:=1) (lp:=BZ) (lf:=600) bK (bR nat_zk3_2_2.2) XV (by rfl) (fun b j x h=>(dh abU (fun h=>(by cases h)) h)) fun p K h=>afo p K (ai h).1 (ai h).2)
noncomputable def nat_r10_3:NN:=bB nat_zk3_2_2 Vb [(0,4),(1,1)] (fun us=>Nat.beq (gi us 1) 10)
end Go.Proofs.Tryz
namespace Go.Proofs.Tryz
open Go Go.RowKit Go.Sy
open Go.Eng hiding ae
set_option maxRecDepth 1000000
set_option linter.unusedVariables false
set_option maxHeartbeats 4000000
def w_7:=fun v0 v1 v2 v3 v4 v5 v6 v7 v8 v9 v10 v11 v12=>((.aft (.seq (.seq (g_ 3 [p_ 0 8 (m_ 4),p_ 1 9 (m_ 1),p_ 2 10 (.bin 3 0 (.t 8) (.t 9))]) (.cond (.t 10) .skip (.exit 2))) (.seq (.block 3 (.seq (.seq (g_ 1 [p_ 0 5 (.mv (i_ 0))]) (.block 4 (.loop [0,1,4,5,6,7,8,9,10,11,12,13,14,15,16,17,18,19,20,21,22,23,25,26,27,28,29,30,31,32,33,34,35,36,37,38,39,40,41,42,43,44,45,46,47,48,49,50,51,52] (.seq (.seq (g_ 7 [p_ 0 13 (m_ 5),p_ 1 14 (m_ 0),p_ 2 15 (n_ 14),p_ 3 16 (f_ 0 15),r_ 4 17 (l_ 16),p_ 5 18 (k_ 17),p_ 6 19 (.bin 3 0 (.t 13) (.t 18))]) (.cond (.t 19) .skip (.exit 4))) (.seq (.block 5 (g_ 3 [p_ 0 22 (m_ 0),p_ 1 23 (m_ 5),c_ 2 24 28 [.t 22,.t 23]])) (g_ 3 [p_ 0 20 (m_ 5),p_ 1 21 (.bin 0 0 (.t 20) (i_ 1)),p_ 2 5 (m_ 21)])))))) (.seq (g_ 1 [p_ 0 6 (.mv (i_ 0))]) (.block 6 (.loop [0,1,4,5,6,7,8,9,10,11,12,13,14,15,16,17,18,19,20,21,22,23,25,26,27,28,29,30,31,32,33,34,35,36,37,38,39,40,41,42,43,44,45,46,47,48,49,50,51,52] (.seq (.seq (.aft (g_ 10 [p_ 0 25 (m_ 6),p_ 1 26 (.bin 3 0 (.t 25) (i_ 3000)),p_ 2 27 (m_ 26),ah 3 28 27 true (m_ 0),ah 4 29 27 true (n_ 28),ah 5 30 27 true (f_ 2 29),aT 6 31 27 true (l_ 30),ah 7 32 27 true (k_ 31),ah 8 33 27 true (.bin 3 2 (.t 32) (i_ 0)),p_ 9 34 (.pick (.t 27) (.t 33) F_)]) [(0,[.fixb 34 6 4 v0 v1])]) (.cond (.t 34) .skip (.exit 6))) (.seq (.block 7 (.seq (.aft (g_ 8 [p_ 0 37 (m_ 0),p_ 1 38 (n_ 37),p_ 2 39 (f_ 2 38),r_ 3 40 (l_ 39),p_ 4 41 (.ixs 33 (.t 40) (i_ 0)),r_ 5 42 (.ld true 33 (.t 41)),e_ 6 7 (.al 76 [o_ 0,o_ 0,j_ 1 0,j_ 1 0,j_ 1 0,j_ 3 0,j_ 3 0,j_ 3 0,j_ 3 0,j_ 4 0,j_ 4 0,j_ 1 0,j_ 2 0,j_ 3 0,j_ 1 0,j_ 1 0,j_ 1 0,j_ 1 0,j_ 1 0,j_ 1 0,j_ 1 0,.nilS,j_ 1 0,.str [],j_ 1 0,j_ 3 0,.nilS,j_ 1 0,j_ 2 0,.bool false,.nilS,.nilS,.nilS]),aK 7 (.st 33 (.t 7) (.t 42))]) [(0,[.fixq 7 0 6 4 v2 v3,.fixq 7 1 6 4 v4 v5,.fixq 7 2 6 4 v6 v7,.fixq 7 5 6 4 v8 v9,.fixq 7 9 6 4 v10 v11,.fixq 7 25 6 4 v12 v11])]) (.seq (g_ 9 [p_ 0 43 (m_ 0),p_ 1 44 (m_ 0),p_ 2 45 (n_ 44),p_ 3 46 (f_ 2 45),r_ 4 47 (l_ 46),r_ 5 48 (.sls 33 (.t 47) (some (i_ 1)) none none),p_ 6 49 (n_ 43),p_ 7 50 (f_ 2 49),aK 8 (.st 1 (.t 50) (.t 48))]) (g_ 3 [p_ 0 51 (m_ 0),r_ 1 52 (.ld true 33 (.t 7)),c_ 2 53 29 [.t 51,.t 52]])))) (g_ 3 [p_ 0 35 (m_ 6),p_ 1 36 (.bin 0 0 (.t 35) (i_ 1)),p_ 2 6 (m_ 36)])))))))) (g_ 3 [p_ 0 11 (m_ 4),p_ 1 12 (.bin 0 0 (.t 11) (i_ 1)),p_ 2 4 (m_ 12)]))) [(0,[.up 4,.can 1 [0,1,4]]),(2,[.can 1 []])]):XC)
def uW:XC:=w_7 8 2 [1,1,2,1,1,2,1,1] [1,2] [0,2,1,0,2,1,0,2] [2,1] [5,5,8,9,9,6,10,10] [3,4] [1,1,1,1,1,1,0,0] [2,2] [257,257,257,257,257,257,0,0] [0,0] [0,0,0,0,0,0,2,2]
def VS:XF:=.mk 54 .none (.seq (g_ 1 [p_ 0 4 (.mv (i_ 0))]) (.block 2 (.pre [.can 1 [0,1,4],.can 1 [0,1,4]] (.inv 0 uW))))
theorem XT:bN Tryz.prog 15 VS=true:=by kernel_rfl
abbrev fH:=nD
structure CV where (l1:List Ke) (com1 b1 u c0 c1:Int) (l2:List Ke) (com2 b2 u2 d2_0 d2_1:Int) (L:List Fx) (a o cp:Nat) (now:Int)
def nT (p:fH) (r:CV):Prop:=r.l1=p.l1∧r.l2=p.l1∧r.com1=(p.l1.length:Int)∧r.com2=(p.l1.length:Int)∧r.c1=(p.l1.length:Int)∧r.b1=(p.l1.length:Int)∧r.b2=(p.l1.length:Int)∧r.a=r.L.length∧(r.L.length:Int)≤p.L.length+16*40∧0≤r.now∧r.now≤p.now+3*40
noncomputable def nC (p:fH):IL:=((.cons 4 (.int 0 (.ofNat 0)) (.cons 1 (.int 0 (.ofNat 40)) (.cons 0 (.ptr 0 0) .nil))),(ag4 p.l0 p.com0 p.g0 p.g1 p.g2 p.l1 p.com1 p.l2 p.com2 p.L p.a p.o p.cp p.now p.cnt),36)
noncomputable def XN (p:fH) (K:KC) (r:CV):Bool:=K 2 .nil (fi p.l0 p.com0 p.g0 p.g1 p.g2 r.l1 r.com1 r.b1 r.u r.c0 r.c1 r.l2 r.com2 r.b2 r.u2 r.d2_0 r.d2_1 r.L r.a r.o r.cp r.now p.cnt) 38
noncomputable def Eb (p:fH) (K:KC):Bool:=ae fun r=>iP (nT p r) (XN p K r) true
def lU (p:fH):Prop:=1≤p.now∧p.now+3*40≤999000∧p.a=p.L.length∧(p.L.length:Int)+16*40≤900000∧bF p.l1∧p.l1.length≤400∧p.l2=p.l1
noncomputable def Am (p:fH) (K:KC):Bool:=aa (aN (lU p)) (Eb p K)
def At (p:fH):Nat:=41
abbrev ep:=eW
abbrev CW:=tV
def jd (p:ep) (r:CW):Prop:=r.l2=p.l1∧r.com1=(p.l1.length:Int)∧r.com2=(p.l1.length:Int)∧r.c1=(p.l1.length:Int)∧r.a=r.L.length∧(r.L.length:Int)≤p.L.length+16*(40 - p.t)∧0≤r.now∧r.now=p.now+3*(40 - p.t)
noncomputable def iO (p:ep):IL:=((.cons 4 (.sy (.int 0 p.t)) (.cons 1 (.int 0 (.ofNat 40)) (.cons 0 (.ptr 0 0) .nil))),(fi p.l0 p.com0 p.g0 p.g1 p.g2 p.l1 p.com1 p.b1 p.u p.c0 p.c1 p.l2 p.com2 p.b2 p.u2 p.d2_0 p.d2_1 p.L p.a p.o p.cp p.now p.cnt),38)
noncomputable def Ax (p:ep) (K:KC) (r:CW):Bool:=K 2 .nil (fi p.l0 p.com0 p.g0 p.g1 p.g2 p.l1 r.com1 p.b1 p.u r.c0 r.c1 r.l2 r.com2 p.b2 p.u2 p.d2_0 p.d2_1 r.L r.a r.o r.cp r.now p.cnt) 38
noncomputable def mf (p:ep) (K:KC):Bool:=ae fun r=>iP (jd p r) (Ax p K r) true
def gX (p:ep):Prop:=(0≤p.t∧p.t≤40)∧(0≤p.now∧p.now+3*(40 - p.t)≤999000)∧(p.a=p.L.length∧(p.L.length:Int)+16*(40 - p.t)≤900000)∧(bF p.l1∧p.l1.length≤400∧0≤p.com1∧p.com1≤(p.l1.length:Int))∧(p.c1=(p.l2.length:Int)∧p.l2++p.l1.drop p.l2.length=p.l1∧p.l1.length≤p.l2.length+16∧0≤p.com2∧p.com2≤(p.l2.length:Int))∧(0≤p.b1∧p.b1≤(p.l1.length:Int))∧(0≤p.b2∧p.b2≤(p.l2.length:Int))∧((1≤p.t→p.com1=(p.l1.length:Int)∧p.l2.length=p.l1.length))∧((2≤p.t→p.com2=(p.l1.length:Int)))
theorem Wf {p:ep} {K:KC} (hK:mf p K=true) {r:CW} (h:jd p r):Ax p K r=true:=ax h (aq hK r)
noncomputable def An (p:ep) (K:KC):Bool:=aa (aN (gX p)) (mf p K)
def jf (p:ep):Nat:=(40 - p.t).toNat
noncomputable def Av (S:SL) (M:T) (nx:Nat) (K:KC):Bool:=(Bool.rec (Bool.rec false (aM fun p:ep=>aa (aN ((S,M,nx)=iO p)) (An p K)) (Nat.beq (gOf M 5) 2)) (aM fun p:fH=>aa (aN ((S,M,nx)=nC p)) (Am p K)) (Nat.beq (gOf M 5) 1))
inductive A_l_r40_3 where
 |v1 (p:fH)
 |v2 (p:ep)
noncomputable def Gb (q:A_l_r40_3):IL:=A_l_r40_3.casesOn q (fun p=>nC p) (fun p=>iO p)
def gF:A_l_r40_3→Nat
 |.v1 p=>At p
 |.v2 p=>jf p
noncomputable def BM (q:A_l_r40_3) (K:KC):Bool:=A_l_r40_3.casesOn q (fun p=>Am p K) (fun p=>An p K)
noncomputable def MR (n:Nat) (K:KC):KC:=fun e S M nx=>Nat.casesOn e (aM fun q:A_l_r40_3=>aa (aN ((S,M,nx)=Gb q∧gF q<n)) (BM q K)) (fun e2=>K (Nat.succ e2) S M nx)
noncomputable def uY (s:IL) (n:Nat) (K:KC):Bool:=aM fun q=>mP (s=Gb q∧gF q<n) (BM q K)
theorem Ys {n:Nat} {q:ep} {K:KC} {s:IL} (hm:jf q<n) (hp:gX q) (hK:mf q K=true) (e:s=iO q):uY s n K=true:=aR (.v2 q) (bC ⟨e,hm⟩ (bC hp hK))
theorem Yu {p q:ep} {K:KC} (hm:jf q<jf p:=by dsimp only[jf]<;>(omega)) (hp:gX q:=by dsimp only[gX]<;>(repeat(first|with_reducible assumption|apply And.intro|(apply dS;with_reducible assumption)|(apply bD<;>with_reducible assumption)|exact y_1 (by assumption)|exact y_2 (by assumption)|exact y_3 (by assumption)|intro _|omega))) (hK:mf q K=true:=by exact(by refine ac fun r=>iI (fun hz=> ?_) (fun _=>rfl);dsimp only[jd]at hz;obtain⟨z0,z1,z2,z3,z4,zL,zn0,zn⟩:=hz;exact ax (show jd p r from(by dsimp only[jd];exact⟨z0,z1,z2,z3,z4,by omega,zn0,by omega⟩)) (aq hK r))):uY (iO q) (gF (.v2 p)) K=true:=aR (.v2 q) (bC ⟨rfl,hm⟩ (bC hp hK))
noncomputable def xC:fx:=fun j S M nx K=>(Bool.rec (false) (Av S M nx K) (Nat.beq j 0))
theorem Xv (p:fH) (K:KC) (hpre:lU p) (hK:Eb p K=true):(dj (gN nat_r10_3.1) xC 600 uW (nC p).1 (nC p).2.1 (nC p).2.2 (MR (gF (.v1 p)) K))=true:=by
 refine Eq.trans (b:=(mP (aI 0 (p.now+1)) (ay aig Gw wz ⟨p.l0,p.com0,p.g0,p.g1,p.g2,p.l1,p.com1,p.l2,p.com2,p.L,p.a,p.o,p.cp,p.now+1,p.cnt⟩ fun p1 r1=>mP (aI 0 ((p1.now+1)+1)) (aL aad zd ⟨p1.l2,p1.com2,(p1.now+1)+1⟩ fun p2=>rd r1.L r1.a (r1.L.length - r1.a) fun x1=>fR x1 1 0 5 1 257 0 (mL (r1.L.length - r1.a) (rd r1.L (r1.a+1) ((r1.L.length - r1.a) - 1) fun x2=>fR x2 1 2 5 1 257 0 (mL ((r1.L.length - r1.a) - 1) (ay ZA yz rA ⟨p1.l0,p1.com0,p1.g0,p1.g1,p1.g2,p1.l1,p1.com1,p1.now+1,p1.now+1+10,r1.hq,r1.tq,p2.l2,p2.com2,r1.L,(r1.a+1)+1,(if r1.cp=r1.a+1 then (if r1.cp=r1.a then r1.o else r1.a*33) else (r1.a+1)*33),r1.cp,(p1.now+1)+1,p1.cnt,x2.n,x2.c,x2.vh,x2.vl,x2.mh,x2.ml,x2.h,x2.l,x2.th,x2.tl⟩ fun p3 r2=>rd r2.L r2.a (r2.L.length - r2.a) fun x3=>fR x3 2 1 8 1 257 0 (mL (r2.L.length - r2.a) (ay Zx yw oJ ⟨p3.l0,p3.com0,p3.g0,p3.g1,p3.g2,p3.l1,p3.com1,p3.t,p3.u,p3.hq,p3.tq,p3.l2,p3.com2,p3.now,r2.L,r2.a+1,(if r2.cp=r2.a then r2.o else r2.a*33),r2.cp,p3.now,p3.cnt,x3.n,x3.c,x3.vh,x3.vl,x3.mh,x3.ml,x3.h,x3.l,x3.th,x3.tl⟩ fun p4 r3=>rd r3.L r3.a (r3.L.length - r3.a) fun x4=>fR x4 1 0 9 1 257 0 (mL (r3.L.length - r3.a) (rd r3.L (r3.a+1) ((r3.L.length - r3.a) - 1) fun x5=>fR x5 1 2 9 1 257 0 (mL ((r3.L.length - r3.a) - 1) (ay ZD yC rD ⟨p4.l0,p4.com0,p4.g0,p4.g1,p4.g2,p4.l1,p4.com1,p4.t,p4.u,p4.hq,p4.tq,r3.hcm,r3.cm,r3.hct,r3.ct,r3.ham,r3.aw,r3.hat,r3.av,p4.l2,p4.com2,p4.t2,r3.L,(r3.a+1)+1,(if r3.cp=r3.a+1 then (if r3.cp=r3.a then r3.o else r3.a*33) else (r3.a+1)*33),r3.cp,p4.now,p4.cnt,x5.n,x5.c,x5.vh,x5.vl,x5.mh,x5.ml,x5.h,x5.l,x5.th,x5.tl⟩ fun p5 r4=>rd r4.L r4.a (r4.L.length - r4.a) fun x6=>fR x6 2 1 6 1 257 0 (mL (r4.L.length - r4.a) (ay ZL yK oL ⟨p5.l0,p5.com0,p5.g0,p5.g1,p5.g2,p5.l1,p5.com1,p5.t,p5.u,p5.hq,p5.tq,p5.hcm,p5.cm,p5.hct,p5.ct,p5.ham,p5.aw,p5.hat,p5.av,p5.l2,p5.com2,p5.t2,r4.hm2,r4.m2,r4.ht2,r4.a2,r4.L,r4.a+1,(if r4.cp=r4.a then r4.o else r4.a*33),r4.cp,p5.now,p5.cnt,x6.n,x6.c,x6.vh,x6.vl,x6.mh,x6.ml,x6.h,x6.l,x6.th,x6.tl⟩ fun p6 r5=>rd r5.L r5.a (r5.L.length - r5.a) fun x7=>fR x7 1 0 10 0 0 2 (mL (r5.L.length - r5.a) (rd r5.L (r5.a+1) ((r5.L.length - r5.a) - 1) fun x8=>fR x8 1 2 10 0 0 2 (mL ((r5.L.length - r5.a) - 1) (ay ZG yF wD ⟨p6.l0,p6.com0,p6.g0,p6.g1,p6.g2,r5.l1,r5.z,r5.z,p6.now+2,r5.z,r5.z,p6.l2,p6.com2,p6.t2,p6.hm2,p6.m2,p6.ht2,p6.a2,r5.L,(r5.a+1)+1,(if r5.cp=r5.a+1 then (if r5.cp=r5.a then r5.o else r5.a*33) else (r5.a+1)*33),r5.cp,p6.now,p6.cnt,x8.n,x8.c,x8.vh,x8.vl,x8.mh,x8.ml,x8.h,x8.l,x8.th,x8.tl⟩ fun p7 r6=>mP (¬((0:Int)<((r6.L.length - r6.a:Nat):Int))) (uY ((.cons 4 (.sy (.int 0 1)) (.cons 1 (.int 0 (.ofNat 40)) (.cons 0 (.ptr 0 0) .nil))),(fi p7.l0 p7.com0 p7.g0 p7.g1 p7.g2 p7.l1 p7.com1 p7.b1 p7.u p7.c0 p7.c1 r6.l2 (p7.x_l.length:Int) (p7.x_l.length:Int) (p7.now+2) (p7.x_l.length:Int) (p7.x_l.length:Int) r6.L r6.a r6.o r6.cp p7.now p7.cnt),38) (gF (.v1 p)) K))))))))))))))))))))) (by kernel_rfl) ?_
 dsimp only[lU]at hpre
 obtain⟨ia1,ia2,ib1,ib2,ik1,ik2,il2⟩:=hpre
 have ik12:=bD il2 ik1
 have in2:=congrArg List.length il2
 have dq:p.L.drop p.a=[]:=List.drop_eq_nil_of_le (by omega)
 have ld:=congrArg List.length dq
 have lz:=apM p.L.length
 have la:=apM p.a
 refine dc ?_
 refine aF (by(try dsimp only[Gw]);repeat(first|with_reducible assumption|apply And.intro|(apply dM<;>with_reducible assumption)|(apply bD<;>with_reducible assumption)|omega)) fun r1 hi1=> ?_
 dsimp only[wz]at hi1 ⊢
 obtain⟨etq,aphi1⟩:=hi1
 have kt:=bD etq ik1
 have n_etq:=congrArg List.length etq
 replace dq:=dP dq aphi1 lz
 clear aphi1 la lz ld
 obtain⟨dq,la,lz,ld⟩:=dq
 (try simp only[apC,apD,List.append_nil,apw,apy]at dq ld lz)
 refine dc ?_
 refine aV (by(try dsimp only[zd]);repeat(first|assumption|omega|apply And.intro)) ?_
 dsimp only
 refine cx (by omega) (by omega) fun x1 hi2=> ?_
 (try clear lx lc lq nl nt f_n f_vl f_ml f_tl)
 replace dq:=dl dq hi2
 clear hi2 ld
 obtain⟨f6,f_n,lc,f_vl,f_ml,lx,f_tl,dq,lq,ld,nl,nt⟩:=dq
 (try simp only[apW,apw,apy]at ld nl nt)
 refine cy f6 ?_
 clear f6
 refine cz ?_
 refine cx (by omega) (by omega) fun x2 hi3=> ?_
 (try clear lx lc lq nl nt f_n f_vl f_ml f_tl)
 replace dq:=dl dq hi3
 clear hi3 ld
 obtain⟨f6,f_n,lc,f_vl,f_ml,lx,f_tl,dq,lq,ld,nl,nt⟩:=dq
 (try simp only[apW,apw,apy]at ld nl nt)
 refine cy f6 ?_
 clear f6
 refine cz ?_
 refine aF (by(try dsimp only[yz]);repeat(first|with_reducible assumption|apply And.intro|(apply dM<;>with_reducible assumption)|(apply bD<;>with_reducible assumption)|omega)) fun r2 hi4=> ?_
 dsimp only[rA]at hi4 ⊢
 obtain⟨_,aphi4⟩:=hi4
 replace dq:=dP dq aphi4 lz
 clear aphi4 la lz ld
 obtain⟨dq,la,lz,ld⟩:=dq
 (try simp only[apC,apD,List.append_nil,apw,apy]at dq ld lz)
 refine cx (by omega) (by omega) fun x3 hi5=> ?_
 (try clear lx lc lq nl nt f_n f_vl f_ml f_tl)
 replace dq:=dl dq hi5
 clear hi5 ld
 obtain⟨f6,f_n,lc,f_vl,f_ml,lx,f_tl,dq,lq,ld,nl,nt⟩:=dq
 (try simp only[apW,apw,apy]at ld nl nt)
 refine cy f6 ?_
 clear f6
 refine cz ?_
 refine aF (by(try dsimp only[yw]);repeat(first|with_reducible assumption|apply And.intro|(apply dM<;>with_reducible assumption)|(apply bD<;>with_reducible assumption)|omega)) fun r3 hi6=> ?_
 dsimp only[oJ]at hi6 ⊢
 obtain⟨ecm,ect,_,_,aphi6⟩:=hi6
 have ect2:=ect.trans etq
 replace dq:=dP dq aphi6 lz
 clear aphi6 la lz ld
 obtain⟨dq,la,lz,ld⟩:=dq
 (try simp only[apC,apD,List.append_nil,apw,apy]at dq ld lz)
 refine cx (by omega) (by omega) fun x4 hi7=> ?_
 (try clear lx lc lq nl nt f_n f_vl f_ml f_tl)
 replace dq:=dl dq hi7
 clear hi7 ld
 obtain⟨f6,f_n,lc,f_vl,f_ml,lx,f_tl,dq,lq,ld,nl,nt⟩:=dq
 (try simp only[apW,apw,apy]at ld nl nt)
 refine cy f6 ?_
 clear f6
 refine cz ?_
 refine cx (by omega) (by omega) fun x5 hi8=> ?_
 (try clear lx lc lq nl nt f_n f_vl f_ml f_tl)
 replace dq:=dl dq hi8
 clear hi8 ld
 obtain⟨f6,f_n,lc,f_vl,f_ml,lx,f_tl,dq,lq,ld,nl,nt⟩:=dq
 (try simp only[apW,apw,apy]at ld nl nt)
 refine cy f6 ?_
 clear f6
 refine cz ?_
 refine aF (by(try dsimp only[yC]);repeat(first|with_reducible assumption|apply And.intro|(apply dM<;>with_reducible assumption)|(apply bD<;>with_reducible assumption)|omega)) fun r4 hi9=> ?_
 dsimp only[rD]at hi9 ⊢
 have aphi9:=hi9
 replace dq:=dP dq aphi9 lz
 clear aphi9 la lz ld
 obtain⟨dq,la,lz,ld⟩:=dq
 (try simp only[apC,apD,List.append_nil,apw,apy]at dq ld lz)
 refine cx (by omega) (by omega) fun x6 hi10=> ?_
 (try clear lx lc lq nl nt f_n f_vl f_ml f_tl)
 replace dq:=dl dq hi10
 clear hi10 ld
 obtain⟨f6,f_n,lc,f_vl,f_ml,lx,f_tl,dq,lq,ld,nl,nt⟩:=dq
 (try simp only[apW,apw,apy]at ld nl nt)
 refine cy f6 ?_
 clear f6
 refine cz ?_
 refine aF (by(try dsimp only[yK]);repeat(first|with_reducible assumption|apply And.intro|(apply dM<;>with_reducible assumption)|(apply bD<;>with_reducible assumption)|omega)) fun r5 hi11=> ?_
 dsimp only[oL]at hi11 ⊢
 obtain⟨el1,ez,_,_,aphi11⟩:=hi11
 have n_el1:=congrArg List.length el1
 have kl1:=bD el1 ik1
 replace dq:=dP dq aphi11 lz
 clear aphi11 la lz ld
 obtain⟨dq,la,lz,ld⟩:=dq
 (try simp only[apC,apD,List.append_nil,apw,apy]at dq ld lz)
 refine cx (by omega) (by omega) fun x7 hi12=> ?_
 (try clear lx lc lq nl nt f_n f_vl f_ml f_tl)
 replace dq:=dl dq hi12
 clear hi12 ld
 obtain⟨f6,f_n,lc,f_vl,f_ml,lx,f_tl,dq,lq,ld,nl,nt⟩:=dq
 (try simp only[apW,apw,apy]at ld nl nt)
 refine cy f6 ?_
 clear f6
 refine cz ?_
 refine cx (by omega) (by omega) fun x8 hi13=> ?_
 (try clear lx lc lq nl nt f_n f_vl f_ml f_tl)
 replace dq:=dl dq hi13
 clear hi13 ld
 obtain⟨f6,f_n,lc,f_vl,f_ml,lx,f_tl,dq,lq,ld,nl,nt⟩:=dq
 (try simp only[apW,apw,apy]at ld nl nt)
 refine cy f6 ?_
 clear f6
 refine cz ?_
 refine aF (by(try dsimp only[yF]);repeat(first|with_reducible assumption|apply And.intro|(apply dM<;>with_reducible assumption)|(apply bD<;>with_reducible assumption)|omega)) fun r6 hi14=> ?_
 dsimp only[wD]at hi14 ⊢
 obtain⟨eilhi14,aphi14⟩:=hi14
 replace dq:=dP dq aphi14 lz
 clear aphi14 la lz ld
 obtain⟨dq,la,lz,ld⟩:=dq
 (try simp only[apC,apD,List.append_nil,apw,apy]at dq ld lz)
 have eihi14:=eilhi14.trans lx
 have ejhi14:=eihi14.trans el1.symm
 have n_eihi14:=congrArg List.length eihi14
 have nxhi14:=congrArg List.length lx
 refine aX ?_
 exact Ys (n:=gF (.v1 p)) (q:=⟨p.l0,p.com0,p.g0,p.g1,p.g2,r5.l1,r5.z,r5.z,((((p.now+(1:Int))+1)+(1:Int))+2),r5.z,r5.z,r6.l2,(x8.l.length:Int),(x8.l.length:Int),(((p.now+(1:Int))+1)+(1:Int))+2,(x8.l.length:Int),(x8.l.length:Int),r6.L,r6.a,r6.o,r6.cp,(((p.now+(1:Int))+1)+(1:Int)),p.cnt,1⟩) (by show jf _<At p;dsimp only[jf,At];omega) (by dsimp only[gX];repeat(first|with_reducible assumption|apply And.intro|(apply dS;with_reducible assumption)|(apply bD<;>with_reducible assumption)|exact y_1 (by assumption)|exact y_2 (by assumption)|exact y_3 (by assumption)|intro _|omega)) (by refine ac fun r=>iI (fun hz=> ?_) (fun _=>rfl);dsimp only[jd]at hz;obtain⟨z0,z1,z2,z3,z4,zL,zn0,zn⟩:=hz;exact ax (show nT p ⟨r5.l1,r.com1,r5.z,((((p.now+(1:Int))+1)+(1:Int))+2),r.c0,r.c1,r.l2,r.com2,(x8.l.length:Int),(((p.now+(1:Int))+1)+(1:Int))+2,(x8.l.length:Int),(x8.l.length:Int),r.L,r.a,r.o,r.cp,r.now⟩ from(by dsimp only[nT];exact⟨el1,z0.trans el1,by omega,by omega,by omega,by omega,by omega,z4,by omega,zn0,by omega⟩)) (aq hK _)) rfl
theorem Xw (p:ep) (K:KC) (hpre:gX p) (hK:mf p K=true):(dj (gN nat_r10_3.1) xC 600 uW (iO p).1 (iO p).2.1 (iO p).2.2 (MR (gF (.v2 p)) K))=true:=by
 refine Eq.trans (b:=(iP (p.t<(40:Int)) (mP (aI 0 (p.now+1)) (ay Px pe ma ⟨p.l0,p.com0,p.g0,p.g1,p.g2,p.l1,p.com1,p.b1,p.u,p.c0,p.c1,p.l2,p.com2,p.b2,p.u2,p.d2_0,p.d2_1,p.L,p.a,p.o,p.cp,p.now+1,p.cnt⟩ fun p1 r1=>mP (aI 0 ((p1.now+1)+1)) (aL Gg lr ⟨p1.l2,p1.com2,p1.b2,p1.u2,p1.d2_0,p1.d2_1,(p1.now+1)+1⟩ fun p2=>rd r1.L r1.a (r1.L.length - r1.a) fun x1=>fR x1 1 2 3 2 0 0 (mL (r1.L.length - r1.a) (ay FV lg iq ⟨p1.l0,p1.com0,p1.g0,p1.g1,p1.g2,p1.l1,p1.com1,p1.b1,p1.u,p1.c0,p1.c1,p2.l2,p2.com2,p2.b2,p2.u2,p2.d2_0,p2.d2_1,r1.L,r1.a+1,(if r1.cp=r1.a then r1.o else r1.a*33),r1.cp,(p1.now+1)+1,p1.cnt,x1.n,x1.c,x1.vh,x1.vl,x1.mh,x1.ml,x1.h,x1.l,x1.th,x1.tl⟩ fun p3 r2=>rd r2.L r2.a (r2.L.length - r2.a) fun x2=>fR x2 2 1 4 2 0 0 (mL (r2.L.length - r2.a) (ay FS kX ku ⟨p3.l0,p3.com0,p3.g0,p3.g1,p3.g2,p3.l1,p3.com1,p3.b1,p3.u,p3.c0,p3.c1,r2.l2,r2.com2,p3.b2,p3.u2,p3.d2_0,p3.d2_1,r2.L,r2.a+1,(if r2.cp=r2.a then r2.o else r2.a*33),r2.cp,p3.now,p3.cnt,x2.n,x2.c,x2.vh,x2.vl,x2.mh,x2.ml,x2.h,x2.l,x2.th,x2.tl⟩ fun p4 r3=>mP (¬((0:Int)<((r3.L.length - r3.a:Nat):Int))) (mP (aI 0 (p.t+1)) (uY (iO ⟨p4.l0,p4.com0,p4.g0,p4.g1,p4.g2,p4.l1,r3.com1,p4.b1,p4.u,r3.c0,r3.c1,p4.l2,p4.com2,p4.b2,p4.u2,p4.d2_0,p4.d2_1,r3.L,r3.a,r3.o,r3.cp,p4.now,p4.cnt,p.t+1⟩) (gF (.v2 p)) K))))))))) (Ax p K ⟨p.com1,p.c0,p.c1,p.l2,p.com2,p.L,p.a,p.o,p.cp,p.now⟩))) (by kernel_rfl) ?_
 dsimp only[gX]at hpre
 obtain⟨⟨i0_0,i0_1⟩,⟨i1_0,i1_1⟩,⟨i2_0,i2_1⟩,⟨i3_0,i3_1,i3_2,i3_3⟩,⟨i4_0,i4_1,i4_2,i4_3,i4_4⟩,⟨i5_0,i5_1⟩,⟨i6_0,i6_1⟩,ip1,ip2⟩:=hpre
 have pl2:=jz i4_1
 have dq:p.L.drop p.a=[]:=List.drop_eq_nil_of_le (by omega)
 have ld:=congrArg List.length dq
 have lz:=apM p.L.length
 have la:=apM p.a
 apply iI<;>intro hc1
 refine dc ?_
 refine aF (by(try dsimp only[pe]);repeat(first|with_reducible assumption|apply And.intro|(apply dM<;>with_reducible assumption)|(apply bD<;>with_reducible assumption)|omega)) fun r1 hi2=> ?_
 dsimp only[ma]at hi2 ⊢
 obtain⟨_,aphi2⟩:=hi2
 replace dq:=dP dq aphi2 lz
 clear aphi2 la lz ld
 obtain⟨dq,la,lz,ld⟩:=dq
 (try simp only[apC,apD,List.append_nil,apw,apy]at dq ld lz)
 refine dc ?_
 refine aV (by(try dsimp only[lr]);repeat(first|assumption|omega|apply And.intro)) ?_
 dsimp only
 refine cx (by omega) (by omega) fun x1 hi3=> ?_
 (try clear lx lc lq nl nt f_n f_vl f_ml f_tl)
 replace dq:=dl dq hi3
 clear hi3 ld
 obtain⟨f6,f_n,lc,f_vl,f_ml,lx,f_tl,dq,lq,ld,nl,nt⟩:=dq
 (try simp only[apW,apw,apy]at ld nl nt)
 refine cy f6 ?_
 clear f6
 refine cz ?_
 refine aF (by(try dsimp only[lg]);repeat(first|with_reducible assumption|apply And.intro|(apply dM<;>with_reducible assumption)|(apply bD<;>with_reducible assumption)|omega)) fun r2 hi4=> ?_
 dsimp only[iq]at hi4 ⊢
 obtain⟨ea,ec,ap⟩:=hi4
 replace dq:=dP dq ap lz
 clear ap la lz ld
 obtain⟨dq,la,lz,ld⟩:=dq
 (try simp only[apC,apD,List.append_nil,apw,apy]at dq ld lz)
 have ew_2:=wx ea lx i4_0 i4_1
 have en_2:=congrArg List.length ew_2
 clear ea
 have eo:=xy ec lc (by rw[en_2]) i3_3 (by omega:p.com2≤(p.l1.length:Int))
 clear ec
 obtain⟨u_2,v_2,Qb⟩:=Dz eo en_2 i4_3
 have y_2:=Dy ip1 eo
 clear eo
 (try clear ip2)
 clear i4_2 i4_3 i4_4
 refine cx (by omega) (by omega) fun x2 hi5=> ?_
 (try clear lx lc lq nl nt f_n f_vl f_ml f_tl)
 replace dq:=dl dq hi5
 clear hi5 ld
 obtain⟨f6,f_n,lc,f_vl,f_ml,lx,f_tl,dq,lq,ld,nl,nt⟩:=dq
 (try simp only[apW,apw,apy]at ld nl nt)
 refine cy f6 ?_
 clear f6
 refine cz ?_
 refine aF (by(try dsimp only[kX]);repeat(first|with_reducible assumption|apply And.intro|(apply dM<;>with_reducible assumption)|(apply bD<;>with_reducible assumption)|omega)) fun r3 hi6=> ?_
 dsimp only[ku]at hi6 ⊢
 obtain⟨eh,ej,er,ap⟩:=hi6
 replace dq:=dP dq ap lz
 clear ap la lz ld
 obtain⟨dq,la,lz,ld⟩:=dq
 (try simp only[apC,apD,List.append_nil,apw,apy]at dq ld lz)
 have ek_2:=mj (m:=(p.l1.length:Int)) ej (by omega) (by omega)
 clear ej
 have eb_2:=oO (gB (m:=(p.l1.length:Int)) er (by omega) (by intro x hx;simp only[apF,apU,or_false]at hx<;>omega)) (by omega)
 have ee:=mj (BA (m:=(p.l1.length:Int)) er (by omega) (by simp only[apw,apy];omega) (by intro x hx;simp only[apF,apU,or_false]at hx<;>omega)) rfl (by omega)
 clear er
 have k_2:=Dx ek_2 en_2
 (try clear eb_2);(try clear ek_2);(try clear i4_0);(try clear i4_1);(try clear ip1)
 refine aX (dc ?_)
 exact Yu
 exact Wf hK (by dsimp only[jd]<;>(first|(exfalso;omega)|(obtain⟨q1,q1_2⟩:=ip1 (by omega);have q2:=ip2 (by omega);repeat(first|assumption|omega|(apply Oe<;>first|assumption|omega)|apply And.intro))))
theorem abS:eE Tryz.prog 54 1 xC true 0 uW:=by
 refine js (lf:=600) bK (bR nat_r10_3.2) (by rfl) Gb gF BM (fun b j x h=>by cases h) (fun S M nx K h=> ?_) (fun p K h=> ?_)
 ·have h:Av S M nx K=true:=h
  unfold Av at h
  rcases tz h with⟨_,h⟩|⟨_,h⟩
  ·obtain⟨p,h⟩:=cd h;exact⟨.v1 p,(ai h).1,(ai h).2⟩
  rcases tz h with⟨_,h⟩|⟨_,h⟩
  ·obtain⟨p,h⟩:=cd h;exact⟨.v2 p,(ai h).1,(ai h).2⟩
  cases h
 ·cases p with
  |v1 p=>have h:Am p K=true:=h;exact Xv p K (ai h).1 (ai h).2
  |v2 p=>have h:An p K=true:=h;exact Xw p K (ai h).1 (ai h).2
abbrev vW:=nD
abbrev Pn:=CV
def wT (p:vW) (r:Pn):Prop:=r.l1=p.l1∧r.l2=p.l1∧r.com1=(p.l1.length:Int)∧r.com2=(p.l1.length:Int)∧r.c1=(p.l1.length:Int)∧r.b1=(p.l1.length:Int)∧r.b2=(p.l1.length:Int)∧r.a=r.L.length∧(r.L.length:Int)≤p.L.length+16*40∧0≤r.now∧r.now≤p.now+3*40
noncomputable def PB (p:vW):IE:=([.ptr 0 0,.int 0 (.ofNat 40)],(ag4 p.l0 p.com0 p.g0 p.g1 p.g2 p.l1 p.com1 p.l2 p.com2 p.L p.a p.o p.cp p.now p.cnt),36)
noncomputable def Lj (p:vW) (K:KE) (r:Pn):Bool:=K (.tup []) (fi p.l0 p.com0 p.g0 p.g1 p.g2 r.l1 r.com1 r.b1 r.u r.c0 r.c1 r.l2 r.com2 r.b2 r.u2 r.d2_0 r.d2_1 r.L r.a r.o r.cp r.now p.cnt) 38
noncomputable def DV (p:vW) (K:KE):Bool:=ae fun r=>iP (wT p r) (Lj p K r) true
def tB (p:vW):Prop:=1≤p.now∧p.now+3*40≤999000∧p.a=p.L.length∧(p.L.length:Int)+16*40≤900000∧bF p.l1∧p.l1.length≤400∧p.l2=p.l1
theorem aea {p:vW} {K:KE} (hK:DV p K=true) {r:Pn} (h:wT p r):Lj p K r=true:=ax h (aq hK r)
theorem afm:Vf tB DV 1 nat_r10_3 xC VS PB:=by
 intro p K hpre hK
 refine Eq.trans (b:=(ay nC lU nT ⟨p.l0,p.com0,p.g0,p.g1,p.g2,p.l1,p.com1,p.l2,p.com2,p.L,p.a,p.o,p.cp,p.now,p.cnt⟩ fun p1 r1=>Lj {p with l0:=p1.l0,com0:=p1.com0,g0:=p1.g0,g1:=p1.g1,g2:=p1.g2,cnt:=p1.cnt} K ⟨r1.l1,r1.com1,r1.b1,r1.u,r1.c0,r1.c1,r1.l2,r1.com2,r1.b2,r1.u2,r1.d2_0,r1.d2_1,r1.L,r1.a,r1.o,r1.cp,r1.now⟩)) (by kernel_rfl) ?_
 dsimp only[tB]at hpre
 obtain⟨ia1,ia2,ib1,ib2,ik1,ik2,il2⟩:=hpre
 have ik12:=bD il2 ik1
 have in2:=congrArg List.length il2
 refine aF (by(try dsimp only[lU]);exact⟨by omega,by omega,by omega,by omega,ik1,by omega,il2⟩) fun r1 hi1=> ?_
 dsimp only[nT]at hi1 ⊢
 exact aea (p:=p) hK (by dsimp only[wT]<;>assumption)
theorem UZ:dH Tryz.prog 15 1 (lM PB (Dn tB DV)):=(cB (f:=15) (k:=1) (lp:=xC) (lf:=600) bK (bR nat_r10_3.2) XT (by rfl) (fun b j x h=>(dh abS (fun h=>(by cases h)) h)) fun p K h=>afm p K (ai h).1 (ai h).2)
noncomputable def RI:NN:=bB nat_r10_3 UZ [(0,4),(1,1)] (fun us=>Nat.beq (gi us 1) 40)
end Go.Proofs.Tryz
namespace Go.Proofs.Tryz
open Go.Proofs.YtjhpjjbnojbikaaGreat (dW fj eP fY fS kN)
open Go Go.RowKit Go.Sy
open Go.Eng hiding ae
set_option maxRecDepth 1000000
set_option linter.unusedVariables false
set_option maxHeartbeats 4000000
def CD:XF:=DB
theorem AC:bN Tryz.prog 28 CD=true:=by kernel_rfl
abbrev vL:=nD
abbrev Pb:=eJ
def oK (p:vL) (r:Pb):Prop:=∃h1 h2,Ap r.L r.a p.L p.a [(⟨0,1,3,1,p.g1,p.com0,0,0,(.slice none 0 0),[],(.slice none 0 0),[],h1,p.l0.drop p.g1.toNat,(.slice none 0 0),[]⟩:Fx),(⟨0,2,3,1,p.g2,p.com0,0,0,(.slice none 0 0),[],(.slice none 0 0),[],h2,p.l0.drop p.g2.toNat,(.slice none 0 0),[]⟩:Fx)]
noncomputable def ZI (p:vL):IE:=([.ptr 0 0,.int 0 (.ofNat 0)],(mw p.l0 p.com0 p.g0 p.g1 p.g2 p.l1 p.com1 p.l2 p.com2 p.L p.a p.o p.cp p.now p.cnt),34)
noncomputable def xF (p:vL) (K:KE) (r:Pb):Bool:=K (.tup []) (mw p.l0 p.com0 p.g0 p.g1 p.g2 p.l1 p.com1 p.l2 p.com2 r.L r.a r.o r.cp (p.now+1) p.cnt) 34
noncomputable def Qu (p:vL) (K:KE):Bool:=ae fun r=>iP (oK p r) (xF p K r) true
def yH (p:vL):Prop:=Bs p.now p.L p.a∧p.l0.length≤400∧0≤p.com0∧p.com0≤400∧(0≤p.g1∧p.g1≤(p.l0.length:Int)∧(p.l0.length:Int)≤p.g1+16)∧(0≤p.g2∧p.g2≤(p.l0.length:Int)∧(p.l0.length:Int)≤p.g2+16)
theorem EU {p:vL} {K:KE} (hK:Qu p K=true) {r:Pb} (h:oK p r):xF p K r=true:=ax h (aq hK r)
theorem aeZ:Vf yH Qu 1 RI aJ CD ZI:=by
 intro p K hpre hK
 refine Eq.trans (b:=(mP (aI 0 (p.now+1)) (ay aah zh xp ⟨p.l0,p.com0,p.g0,p.g1,p.g2,p.now+1⟩ fun p1 r1=>iP (((p.L.length - p.a:Nat):Int)<(400:Int)) (mE (.psub 3 33 p.a (p.L.length - p.a) p.o (some p.cp)) (mP (p.a+(p.L.length - p.a)=p.L.length) (aM fun m1:List Fx=>mP (bg (m1.map dA) (QT 0 1 1 p1.g1 p1.com0 [] r1.h1 r1.e1)) (mP (bQ 232 (p.L.length+m1.length)) (ae fun L1:List Fx=>ae fun d1:Nat=>ae fun o1:Nat=>ae fun u1:Nat=>iP (d1≤L1.length∧L1.length≤p.L.length+m1.length∧L1.drop d1=p.L.drop p.a++m1) (iP (((L1.length - d1:Nat):Int)<(400:Int)) (mE (.psub 46 33 d1 (L1.length - d1) o1 (some u1)) (mP (d1+(L1.length - d1)=L1.length) (aM fun m2:List Fx=>mP (bg (m2.map dA) (QT 0 2 1 p1.g2 p1.com0 [] r1.h2 r1.e2)) (mP (bQ 232 (L1.length+m2.length)) (ae fun L2:List Fx=>ae fun d2:Nat=>ae fun o2:Nat=>ae fun u2:Nat=>iP (d2≤L2.length∧L2.length≤L1.length+m2.length∧L2.drop d2=L1.drop d1++m2) (xF {p with l0:=p1.l0,com0:=p1.com0,g0:=p1.g0,g1:=p1.g1,g2:=p1.g2} K ⟨L2,d2,o2,u2⟩) true))))) (xF {p with l0:=p1.l0,com0:=p1.com0,g0:=p1.g0,g1:=p1.g1,g2:=p1.g2} K ⟨L1,d1,o1,u1⟩)) true))))) (xF {p with l0:=p1.l0,com0:=p1.com0,g0:=p1.g0,g1:=p1.g1,g2:=p1.g2} K ⟨p.L,p.a,p.o,p.cp⟩)))) (by kernel_rfl) ?_
 dsimp only[yH]at hpre
 obtain⟨⟨n0,n1,n2,n3,n4⟩,hx⟩:=hpre
 obtain⟨hx1,hx2,hx3,⟨u1,v1,w1⟩,⟨u2,v2,w2⟩⟩:=hx
 refine dc ?_
 refine aF (by(try dsimp only[zh]);repeat(first|assumption|omega|apply And.intro)) fun r1 hi1=> ?_
 dsimp only[xp]at hi1 ⊢
 have hv:=hi1
 apply iI<;>intro hc2
 refine aH (aX ?_)
 refine aR ([⟨0,1,3,1,p.g1,p.com0,0,0,(.slice none 0 0),[],(.slice none 0 0),[],r1.h1,r1.e1,(.slice none 0 0),[]⟩]:List Fx) ?_
 refine fv (eU ?_)
 refine ac fun L1=> ?_
 refine ac fun d1=> ?_
 refine ac fun o1=> ?_
 refine ac fun u1=> ?_
 refine iJ fun hi3=> ?_
 have apL1:=fw hi3
 have lnL1:=apL1.len
 apply iI<;>intro hc4
 refine aH (aX ?_)
 refine aR ([⟨0,2,3,1,p.g2,p.com0,0,0,(.slice none 0 0),[],(.slice none 0 0),[],r1.h2,r1.e2,(.slice none 0 0),[]⟩]:List Fx) ?_
 refine fv (eU ?_)
 refine ac fun L2=> ?_
 refine ac fun d2=> ?_
 refine ac fun o2=> ?_
 refine ac fun u2=> ?_
 refine iJ fun hi5=> ?_
 have apL2:=fw hi5
 have lnL2:=apL2.len
 exact EU (p:=p) hK (by dsimp only[oK]<;>(first|(exfalso;omega)|(exfalso;simp only[apw,apy]at*;omega)|(have ap:=(apL1).trans apL2;(try simp only[apC,apD]at ap);(rw[hv.1,hv.2]at ap;exact⟨_,_,ap⟩))))
 exact EU (p:=p) hK (by dsimp only[oK]<;>(first|(exfalso;omega)|(exfalso;simp only[apw,apy]at*;omega)|(have ap:=apL1;(try simp only[apC,apD]at ap);(rw[hv.1,hv.2]at ap;exact⟨_,_,ap⟩))))
 exact EU (p:=p) hK (by dsimp only[oK]<;>(first|(exfalso;omega)|(exfalso;simp only[apw,apy]at*;omega)|(have ap:=Ap.nil (by omega);(try simp only[apC,apD]at ap);(rw[hv.1,hv.2]at ap;exact⟨_,_,ap⟩))))
noncomputable def Rm:NN:=bB RI (nE AC aeZ) [(0,4),(1,1)] (fun us=>Nat.beq (gi us 1) 0)
abbrev px:=nD
abbrev Ft:=eJ
def qo (p:px) (r:Ft):Prop:=Ap r.L r.a p.L p.a []
noncomputable def SI (p:px):IE:=([.ptr 0 0,.int 0 (.ofNat 1)],(mw p.l0 p.com0 p.g0 p.g1 p.g2 p.l1 p.com1 p.l2 p.com2 p.L p.a p.o p.cp p.now p.cnt),34)
noncomputable def Ce (p:px) (K:KE) (r:Ft):Bool:=K (.tup []) (mw p.l0 p.com0 p.g0 p.g1 p.g2 p.l1 p.com1 p.l2 p.com2 r.L r.a r.o r.cp (p.now+1) p.cnt) 34
noncomputable def HY (p:px) (K:KE):Bool:=ae fun r=>iP (qo p r) (Ce p K r) true
def sk (p:px):Prop:=Bs p.now p.L p.a
theorem Yd {p:px} {K:KE} (hK:HY p K=true) {r:Ft} (h:qo p r):Ce p K r=true:=ax h (aq hK r)
theorem aap:Vf sk HY 1 Rm aJ CD SI:=by
 intro p K hpre hK
 refine Eq.trans (b:=(mP (aI 0 (p.now+1)) (aL Tp sR ⟨p.l1,p.com1,p.now+1⟩ fun p1=>Ce {p with l1:=p1.l1,com1:=p1.com1} K ⟨p.L,p.a,p.o,p.cp⟩))) (by kernel_rfl) ?_
 dsimp only[sk]at hpre
 obtain⟨n0,n1,n2,n3,n4⟩:=hpre
 refine dc ?_
 refine aV (by(try dsimp only[sR]);repeat(first|assumption|omega|apply And.intro)) ?_
 dsimp only
 exact Yd (p:=p) hK (by dsimp only[qo]<;>(first|(exfalso;omega)|(exfalso;simp only[apw,apy]at*;omega)|(have ap:=Ap.nil (by omega);(try simp only[apC,apD]at ap);exact ap)))
noncomputable def IT:NN:=bB Rm (nE AC aap) [(0,4),(1,1)] (fun us=>Nat.beq (gi us 1) 1)
abbrev pw:=nD
abbrev Fs:=eJ
def qm (p:pw) (r:Fs):Prop:=Ap r.L r.a p.L p.a []
noncomputable def SH (p:pw):IE:=([.ptr 0 0,.int 0 (.ofNat 2)],(mw p.l0 p.com0 p.g0 p.g1 p.g2 p.l1 p.com1 p.l2 p.com2 p.L p.a p.o p.cp p.now p.cnt),34)
noncomputable def Cd (p:pw) (K:KE) (r:Fs):Bool:=K (.tup []) (mw p.l0 p.com0 p.g0 p.g1 p.g2 p.l1 p.com1 p.l2 p.com2 r.L r.a r.o r.cp (p.now+1) p.cnt) 34
noncomputable def HX (p:pw) (K:KE):Bool:=ae fun r=>iP (qm p r) (Cd p K r) true
def sj (p:pw):Prop:=Bs p.now p.L p.a
theorem Yc {p:pw} {K:KE} (hK:HX p K=true) {r:Fs} (h:qm p r):Cd p K r=true:=ax h (aq hK r)
theorem aao:Vf sj HX 1 IT aJ CD SH:=by
 intro p K hpre hK
 refine Eq.trans (b:=(mP (aI 0 (p.now+1)) (aL To sQ ⟨p.l2,p.com2,p.now+1⟩ fun p1=>Cd {p with l2:=p1.l2,com2:=p1.com2} K ⟨p.L,p.a,p.o,p.cp⟩))) (by kernel_rfl) ?_
 dsimp only[sj]at hpre
 obtain⟨n0,n1,n2,n3,n4⟩:=hpre
 refine dc ?_
 refine aV (by(try dsimp only[sQ]);repeat(first|assumption|omega|apply And.intro)) ?_
 dsimp only
 exact Yc (p:=p) hK (by dsimp only[qm]<;>(first|(exfalso;omega)|(exfalso;simp only[apw,apy]at*;omega)|(have ap:=Ap.nil (by omega);(try simp only[apC,apD]at ap);exact ap)))
noncomputable def IS:NN:=bB IT (nE AC aao) [(0,4),(1,1)] (fun us=>Nat.beq (gi us 1) 2)
def qT:XF:=DA
theorem oC:bN Tryz.prog 29 qT=true:=by kernel_rfl
structure iR where (l0:List Ke) (com0 g0 g1 g2:Int) (l1:List Ke) (com1:Int) (l2:List Ke) (com2:Int) (L:List Fx) (a o cp:Nat) (now cnt x_n x_c:Int) (x_vh:Value) (x_vl:List Int) (x_mh:Value) (x_ml:List Int) (x_h:Value) (x_l:List Ke) (x_th:Value) (x_tl:List Ke)
structure zZ where (l1:List Ke) (com1:Int) (L:List Fx) (a o cp:Nat)
def mW (p:iR) (r:zZ):Prop:=r.l1=p.l1++p.x_l∧r.com1=max p.com1 (min p.x_c (r.l1.length:Int))∧Ap r.L r.a p.L p.a [(⟨1,0,4,1,(r.l1.length:Int),0,0,0,(.slice none 0 0),[],(.slice none 0 0),[],(.slice none 0 0),[],(.slice none 0 0),[]⟩:Fx)]
noncomputable def SV (p:iR):IE:=([.ptr 0 0,hU 0 1 3 1 p.x_n p.x_c 0 [] 0 p.x_vh p.x_vl p.x_mh p.x_ml p.x_h p.x_l p.x_th p.x_tl],(mw p.l0 p.com0 p.g0 p.g1 p.g2 p.l1 p.com1 p.l2 p.com2 p.L p.a p.o p.cp p.now p.cnt),34)
noncomputable def uI (p:iR) (K:KE) (r:zZ):Bool:=K (.tup []) (mw p.l0 p.com0 p.g0 p.g1 p.g2 r.l1 r.com1 p.l2 p.com2 r.L r.a r.o r.cp p.now p.cnt) 34
noncomputable def Iq (p:iR) (K:KE):Bool:=ae fun r=>iP (mW p r) (uI p K r) true
def sD (p:iR):Prop:=Bs p.now p.L p.a∧p.x_vl=[]∧p.x_ml=[]∧p.x_tl=[]∧p.x_n=(p.l1.length:Int)∧bF p.x_l∧p.l1.length+p.x_l.length≤400∧0≤(p.l1.length:Int)∧0≤p.x_c∧p.x_c≤400∧0≤0
theorem Kg {p:iR} {K:KE} (hK:Iq p K=true) {r:zZ} (h:mW p r):uI p K r=true:=ax h (aq hK r)
theorem aaF:Vf sD Iq 1 IS aJ qT SV:=by
 intro p K hpre hK
 refine Eq.trans (b:=(mE (.int 0 p.now) (aa (qL [qI 3 p.x_n,qI 3 p.x_c,qY ((.imm p.x_vh 2 Int p.x_vl aG)),qY ((.imm p.x_mh 2 Int p.x_ml aG)),qY ((.imm p.x_h 18 Ke p.x_l au)),qY ((.imm p.x_th 18 Ke p.x_tl au))]) (ay TA sZ qE ⟨p.l1,p.com1,p.x_n,p.x_c,p.x_vh,p.x_vl,p.x_mh,p.x_ml,p.x_h,p.x_l,p.x_th,p.x_tl,p.now⟩ fun p1 r1=>iP (((p.L.length - p.a:Nat):Int)<(400:Int)) (mE (.psub 3 33 p.a (p.L.length - p.a) p.o (some p.cp)) (mP (p.a+(p.L.length - p.a)=p.L.length) (aM fun m1:List Fx=>mP (bg (m1.map dA) (QS 1 0 1 (r1.l1.length:Int) [])) (mP (bQ 232 (p.L.length+m1.length)) (ae fun L1:List Fx=>ae fun d1:Nat=>ae fun o1:Nat=>ae fun u1:Nat=>iP (d1≤L1.length∧L1.length≤p.L.length+m1.length∧L1.drop d1=p.L.drop p.a++m1) (uI p K ⟨r1.l1,r1.com1,L1,d1,o1,u1⟩) true))))) (uI p K ⟨r1.l1,r1.com1,p.L,p.a,p.o,p.cp⟩))))) (by kernel_rfl) ?_
 dsimp only[sD]at hpre
 obtain⟨⟨n0,n1,n2,n3,n4⟩,hx⟩:=hpre
 obtain⟨hx1,hx2,hx3,hn,hks,hlen,hb,hq1,hq2,hb0⟩:=hx
 refine aH ?_
 refine cq ?_
 refine aF (by(try dsimp only[sZ]);repeat(first|assumption|omega|apply And.intro)) fun r1 hi1=> ?_
 dsimp only[qE]at hi1
 have hv:=hi1
 apply iI<;>intro hc2
 refine aH (aX ?_)
 refine aR ([⟨1,0,4,1,(r1.l1.length:Int),0,0,0,(.slice none 0 0),[],(.slice none 0 0),[],(.slice none 0 0),[],(.slice none 0 0),[]⟩]:List Fx) ?_
 refine fv (eU ?_)
 refine ac fun L1=> ?_
 refine ac fun d1=> ?_
 refine ac fun o1=> ?_
 refine ac fun u1=> ?_
 refine iJ fun hi3=> ?_
 have apL1:=fw hi3
 have lnL1:=apL1.len
 exact Kg hK (by dsimp only[mW]<;>(first|(exfalso;omega)|(exfalso;simp only[apw,apy]at*;omega)|(have ap:=apL1;(try simp only[apC,apD]at ap);exact⟨hv.1,hv.2,ap⟩)))
 exact Kg hK (by dsimp only[mW]<;>(first|(exfalso;omega)|(exfalso;simp only[apw,apy]at*;omega)|(have ap:=Ap.nil (by omega);(try simp only[apC,apD]at ap);exact⟨hv.1,hv.2,ap⟩)))
noncomputable def Jf:NN:=bB IS (nE oC aaF) [(0,4),(1,15)] (fun us=>aA (aA (Nat.beq (aC us 1 0) 0) (Nat.beq (aC us 1 1) 1)) (Nat.beq (aC us 1 2) 3))
abbrev pG:=iR
structure zX where (com0 g0 g1:Int) (L:List Fx) (a o cp:Nat)
def qv (p:pG) (r:zX):Prop:=r.g0=(p.l0.length:Int)∧r.g1=max p.g1 p.x_n∧ib 2 p.com0 r.com0 [r.g0,r.g1,p.g2]∧Ap r.L r.a p.L p.a []
noncomputable def SO (p:pG):IE:=([.ptr 0 0,hU 1 0 4 1 p.x_n p.x_c 0 [] 0 p.x_vh p.x_vl p.x_mh p.x_ml p.x_h p.x_l p.x_th p.x_tl],(mw p.l0 p.com0 p.g0 p.g1 p.g2 p.l1 p.com1 p.l2 p.com2 p.L p.a p.o p.cp p.now p.cnt),34)
noncomputable def Cp (p:pG) (K:KE) (r:zX):Bool:=K (.tup []) (mw p.l0 r.com0 r.g0 r.g1 p.g2 p.l1 p.com1 p.l2 p.com2 r.L r.a r.o r.cp p.now p.cnt) 34
noncomputable def Ih (p:pG) (K:KE):Bool:=ae fun r=>iP (qv p r) (Cp p K r) true
def ss (p:pG):Prop:=Bs p.now p.L p.a∧p.x_vl=[]∧p.x_ml=[]∧p.x_l=[]∧p.x_tl=[]∧0≤p.x_n∧p.x_n≤(p.l0.length:Int)∧p.l0.length≤400∧p.x_c=0
theorem Yl {p:pG} {K:KE} (hK:Ih p K=true) {r:zX} (h:qv p r):Cp p K r=true:=ax h (aq hK r)
theorem aax:Vf ss Ih 1 Jf aJ qT SO:=by
 intro p K hpre hK
 refine Eq.trans (b:=(mE (.int 0 p.now) (aa (qL [qI 3 p.x_n,qI 3 p.x_c,qY ((.imm p.x_vh 2 Int p.x_vl aG)),qY ((.imm p.x_mh 2 Int p.x_ml aG)),qY ((.imm p.x_h 18 Ke p.x_l au)),qY ((.imm p.x_th 18 Ke p.x_tl au))]) (ay Tj sM nh ⟨p.l0,p.com0,p.g0,p.g1,p.g2,p.x_n,p.x_c,p.x_vh,p.x_vl,p.x_mh,p.x_ml,p.x_h,p.x_l,p.x_th,p.x_tl,p.now⟩ fun p1 r1=>Cp {p with l0:=p1.l0,g2:=p1.g2} K ⟨r1.com0,r1.g0,r1.g1,p.L,p.a,p.o,p.cp⟩)))) (by kernel_rfl) ?_
 dsimp only[ss]at hpre
 obtain⟨⟨n0,n1,n2,n3,n4⟩,hx⟩:=hpre
 obtain⟨hx1,hx2,hx3,hx4,hx5,hx6,hx7,hx8⟩:=hx
 refine aH ?_
 refine cq ?_
 refine aF (by(try dsimp only[sM]);repeat(first|assumption|omega|apply And.intro)) fun r1 hi1=> ?_
 dsimp only[nh]at hi1 ⊢
 have hv:=hi1
 exact Yl (p:=p) hK (by dsimp only[qv]<;>(first|(exfalso;omega)|(exfalso;simp only[apw,apy]at*;omega)|(have ap:=Ap.nil (by omega);(try simp only[apC,apD]at ap);exact⟨hv.1,hv.2.1,hv.2.2,ap⟩)))
noncomputable def IX:NN:=bB Jf (nE oC aax) [(0,4),(1,15)] (fun us=>aA (aA (Nat.beq (aC us 1 0) 1) (Nat.beq (aC us 1 1) 0)) (Nat.beq (aC us 1 2) 4))
abbrev pK:=iR
abbrev FE:=pq
def mV (p:pK) (r:FE):Prop:=r.l2=p.l2++p.x_l∧r.com2=max p.com2 (min p.x_c (r.l2.length:Int))∧Ap r.L r.a p.L p.a [(⟨2,0,4,1,(r.l2.length:Int),0,0,0,(.slice none 0 0),[],(.slice none 0 0),[],(.slice none 0 0),[],(.slice none 0 0),[]⟩:Fx)]
noncomputable def SU (p:pK):IE:=([.ptr 0 0,hU 0 2 3 1 p.x_n p.x_c 0 [] 0 p.x_vh p.x_vl p.x_mh p.x_ml p.x_h p.x_l p.x_th p.x_tl],(mw p.l0 p.com0 p.g0 p.g1 p.g2 p.l1 p.com1 p.l2 p.com2 p.L p.a p.o p.cp p.now p.cnt),34)
noncomputable def uH (p:pK) (K:KE) (r:FE):Bool:=K (.tup []) (mw p.l0 p.com0 p.g0 p.g1 p.g2 p.l1 p.com1 r.l2 r.com2 r.L r.a r.o r.cp p.now p.cnt) 34
noncomputable def Ip (p:pK) (K:KE):Bool:=ae fun r=>iP (mV p r) (uH p K r) true
def sC (p:pK):Prop:=Bs p.now p.L p.a∧p.x_vl=[]∧p.x_ml=[]∧p.x_tl=[]∧p.x_n=(p.l2.length:Int)∧bF p.x_l∧p.l2.length+p.x_l.length≤400∧0≤(p.l2.length:Int)∧0≤p.x_c∧p.x_c≤400∧0≤0
theorem Kf {p:pK} {K:KE} (hK:Ip p K=true) {r:FE} (h:mV p r):uH p K r=true:=ax h (aq hK r)
theorem aaE:Vf sC Ip 1 IX aJ qT SU:=by
 intro p K hpre hK
 refine Eq.trans (b:=(mE (.int 0 p.now) (aa (qL [qI 3 p.x_n,qI 3 p.x_c,qY ((.imm p.x_vh 2 Int p.x_vl aG)),qY ((.imm p.x_mh 2 Int p.x_ml aG)),qY ((.imm p.x_h 18 Ke p.x_l au)),qY ((.imm p.x_th 18 Ke p.x_tl au))]) (ay Tz sY qD ⟨p.l2,p.com2,p.x_n,p.x_c,p.x_vh,p.x_vl,p.x_mh,p.x_ml,p.x_h,p.x_l,p.x_th,p.x_tl,p.now⟩ fun p1 r1=>iP (((p.L.length - p.a:Nat):Int)<(400:Int)) (mE (.psub 3 33 p.a (p.L.length - p.a) p.o (some p.cp)) (mP (p.a+(p.L.length - p.a)=p.L.length) (aM fun m1:List Fx=>mP (bg (m1.map dA) (QS 2 0 1 (r1.l2.length:Int) [])) (mP (bQ 232 (p.L.length+m1.length)) (ae fun L1:List Fx=>ae fun d1:Nat=>ae fun o1:Nat=>ae fun u1:Nat=>iP (d1≤L1.length∧L1.length≤p.L.length+m1.length∧L1.drop d1=p.L.drop p.a++m1) (uH p K ⟨r1.l2,r1.com2,L1,d1,o1,u1⟩) true))))) (uH p K ⟨r1.l2,r1.com2,p.L,p.a,p.o,p.cp⟩))))) (by kernel_rfl) ?_
 dsimp only[sC]at hpre
 obtain⟨⟨n0,n1,n2,n3,n4⟩,hx⟩:=hpre
 obtain⟨hx1,hx2,hx3,hn,hks,hlen,hb,hq1,hq2,hb0⟩:=hx
 refine aH ?_
 refine cq ?_
 refine aF (by(try dsimp only[sY]);repeat(first|assumption|omega|apply And.intro)) fun r1 hi1=> ?_
 dsimp only[qD]at hi1
 have hv:=hi1
 apply iI<;>intro hc2
 refine aH (aX ?_)
 refine aR ([⟨2,0,4,1,(r1.l2.length:Int),0,0,0,(.slice none 0 0),[],(.slice none 0 0),[],(.slice none 0 0),[],(.slice none 0 0),[]⟩]:List Fx) ?_
 refine fv (eU ?_)
 refine ac fun L1=> ?_
 refine ac fun d1=> ?_
 refine ac fun o1=> ?_
 refine ac fun u1=> ?_
 refine iJ fun hi3=> ?_
 have apL1:=fw hi3
 have lnL1:=apL1.len
 exact Kf hK (by dsimp only[mV]<;>(first|(exfalso;omega)|(exfalso;simp only[apw,apy]at*;omega)|(have ap:=apL1;(try simp only[apC,apD]at ap);exact⟨hv.1,hv.2,ap⟩)))
 exact Kf hK (by dsimp only[mV]<;>(first|(exfalso;omega)|(exfalso;simp only[apw,apy]at*;omega)|(have ap:=Ap.nil (by omega);(try simp only[apC,apD]at ap);exact⟨hv.1,hv.2,ap⟩)))
noncomputable def Je:NN:=bB IX (nE oC aaE) [(0,4),(1,15)] (fun us=>aA (aA (Nat.beq (aC us 1 0) 0) (Nat.beq (aC us 1 1) 2)) (Nat.beq (aC us 1 2) 3))
abbrev pF:=iR
structure zW where (com0 g0 g2:Int) (L:List Fx) (a o cp:Nat)
def qu (p:pF) (r:zW):Prop:=r.g0=(p.l0.length:Int)∧r.g2=max p.g2 p.x_n∧ib 2 p.com0 r.com0 [r.g0,p.g1,r.g2]∧Ap r.L r.a p.L p.a []
noncomputable def SN (p:pF):IE:=([.ptr 0 0,hU 2 0 4 1 p.x_n p.x_c 0 [] 0 p.x_vh p.x_vl p.x_mh p.x_ml p.x_h p.x_l p.x_th p.x_tl],(mw p.l0 p.com0 p.g0 p.g1 p.g2 p.l1 p.com1 p.l2 p.com2 p.L p.a p.o p.cp p.now p.cnt),34)
noncomputable def Co (p:pF) (K:KE) (r:zW):Bool:=K (.tup []) (mw p.l0 r.com0 r.g0 p.g1 r.g2 p.l1 p.com1 p.l2 p.com2 r.L r.a r.o r.cp p.now p.cnt) 34
noncomputable def Ig (p:pF) (K:KE):Bool:=ae fun r=>iP (qu p r) (Co p K r) true
def sr (p:pF):Prop:=Bs p.now p.L p.a∧p.x_vl=[]∧p.x_ml=[]∧p.x_l=[]∧p.x_tl=[]∧0≤p.x_n∧p.x_n≤(p.l0.length:Int)∧p.l0.length≤400∧p.x_c=0
theorem Yk {p:pF} {K:KE} (hK:Ig p K=true) {r:zW} (h:qu p r):Co p K r=true:=ax h (aq hK r)
theorem aaw:Vf sr Ig 1 Je aJ qT SN:=by
 intro p K hpre hK
 refine Eq.trans (b:=(mE (.int 0 p.now) (aa (qL [qI 3 p.x_n,qI 3 p.x_c,qY ((.imm p.x_vh 2 Int p.x_vl aG)),qY ((.imm p.x_mh 2 Int p.x_ml aG)),qY ((.imm p.x_h 18 Ke p.x_l au)),qY ((.imm p.x_th 18 Ke p.x_tl au))]) (ay Ti sL ng ⟨p.l0,p.com0,p.g0,p.g1,p.g2,p.x_n,p.x_c,p.x_vh,p.x_vl,p.x_mh,p.x_ml,p.x_h,p.x_l,p.x_th,p.x_tl,p.now⟩ fun p1 r1=>Co {p with l0:=p1.l0,g1:=p1.g1} K ⟨r1.com0,r1.g0,r1.g2,p.L,p.a,p.o,p.cp⟩)))) (by kernel_rfl) ?_
 dsimp only[sr]at hpre
 obtain⟨⟨n0,n1,n2,n3,n4⟩,hx⟩:=hpre
 obtain⟨hx1,hx2,hx3,hx4,hx5,hx6,hx7,hx8⟩:=hx
 refine aH ?_
 refine cq ?_
 refine aF (by(try dsimp only[sL]);repeat(first|assumption|omega|apply And.intro)) fun r1 hi1=> ?_
 dsimp only[ng]at hi1 ⊢
 have hv:=hi1
 exact Yk (p:=p) hK (by dsimp only[qu]<;>(first|(exfalso;omega)|(exfalso;simp only[apw,apy]at*;omega)|(have ap:=Ap.nil (by omega);(try simp only[apC,apD]at ap);exact⟨hv.1,hv.2.1,hv.2.2,ap⟩)))
noncomputable def nat_zk3_1_2:NN:=bB Je (nE oC aaw) [(0,4),(1,15)] (fun us=>aA (aA (Nat.beq (aC us 1 0) 2) (Nat.beq (aC us 1 1) 0)) (Nat.beq (aC us 1 2) 4))
end Go.Proofs.Tryz
