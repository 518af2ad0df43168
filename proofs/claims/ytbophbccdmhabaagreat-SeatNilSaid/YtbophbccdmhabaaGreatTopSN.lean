/- SeatNil: whatever act comes in, the call returns true, and the act reads as before. No condition beyond the row's own. -/
import Derived.Test.YtbophbccdmhabaaGreatM2
import Derived.Test.YtbophbccdmhabaaGreatRows
import Derived.WalkKit
import Derived.ProofKit
import Derived.OpenShut
import Derived.Below
import Derived.LaidLaws
import Derived.RowKit
import Derived.KernelRfl
import Derived.SizedLaws
namespace Go.Proofs.YtbophbccdmhabaaGreat.seatNil
open Go Go.RowKit Go.Eng Go.Sy Go.ChangeShapes Go.WideShapes Go.ChangeAt
open Go.Proofs.Tryz (PtR WrR EnR PrR MsR encE encW encR)
set_option linter.unusedVariables false
set_option maxRecDepth 100000
theorem prB_eq (b : Bool) : prB (b = true) = b := by cases b <;> simp [prB]
theorem leafs178 : Leafs Tryz.prog 20 178 = some [5, 5, 9, 9, 2] := by kernel_rfl
theorem open_P {H : Type} {en : TypeId × Value → H} {W : World} {fuel : Nat} {cs : List Value} {x : DataW H × List MemPlace} (h : DataW.trod en Tryz.prog W 0 (fun _ => true) true fuel 62 cs = some x) :
  ∃ (ao : Option Addr) (cap : Nat) (t : List PtR), cs = [.slice ao t.length cap] ∧ OkP (GS.of W).M (.imm (.slice ao t.length cap) 5 PtR t Go.Proofs.Tryz.encP) := by
 rcases Go.Deep.open_slice Tryz.underlying62 h with ⟨rfl, _⟩ | ⟨a, len, cap, m, n, D, Pl, rfl, _, hl, hm, rfl, _, hel⟩
 ·exact ⟨none, 0, [], rfl, .imm none 0 rfl (by simp) (by decide) (by decide) (fun q => by simp at q) (fun x hx => by simp at hx) (fun x hx => by simp at hx) (fun i x hx => by simp at hx)⟩
 ·obtain ⟨t, ht, hp⟩ := list_of (p := fun i (x : PtR) => W.cells? 0 (a.add (i * 5)) 5 = some ((Go.Proofs.Tryz.encP x).map valP) ∧ (∀ q ∈ Go.Proofs.Tryz.encP x, OkP (GS.of W).M q)) len (fun i hi => by
   obtain ⟨cs2, h1, h2⟩ := hel i (by first | omega | (simp; omega))
   obtain ⟨hlen, hleaf⟩ := leafs_trod 20 178 _ leafs178 _ _ _ h2
   obtain ⟨c0, c1, c2, c3, c4, rfl⟩ : ∃ c0 c1 c2 c3 c4, cs2 = [c0, c1, c2, c3, c4] := by
    match cs2, hlen with
    | [c0, c1, c2, c3, c4], _ => exact ⟨c0, c1, c2, c3, c4, rfl⟩
   obtain ⟨z0, rfl, w0⟩ := leaf_int Tryz.underlying5 (hleaf 0 _ _ rfl rfl)
   obtain ⟨z1, rfl, w1⟩ := leaf_int Tryz.underlying5 (hleaf 1 _ _ rfl rfl)
   obtain ⟨z2, rfl, w2⟩ := leaf_str Tryz.underlying9 (hleaf 2 _ _ rfl rfl)
   obtain ⟨z3, rfl, w3⟩ := leaf_str Tryz.underlying9 (hleaf 3 _ _ rfl rfl)
   obtain ⟨z4, rfl, w4⟩ := leaf_int Tryz.underlying2 (hleaf 4 _ _ rfl rfl)
   refine ⟨⟨z0, z1, z2, z3, z4⟩, ?_, ?_⟩
   ·exact h1
   ·intro q hq; simp only [Go.Proofs.Tryz.encP, List.mem_cons, List.not_mem_nil, or_false] at hq
    rcases hq with rfl | rfl | rfl | rfl | rfl <;> first | exact .sint _ _ | exact .sstr _ | exact .sbool _)
  subst ht
  have r := rdf_of (base := 0) (en := fun x => (Go.Proofs.Tryz.encP x).map valP) (w := W) hl hm (by decide) (fun _ => rfl) (fun i x hx => (hp i x hx).1)
  exact ⟨some a, _, t, rfl, .imm (some a) _ rfl r.le r.cap (by decide) r.addr (fun x _ => rfl) (fun x hx => by
   obtain ⟨i, hi⟩ := List.mem_iff_getElem?.1 hx
   exact (hp i x hi).2) r.row⟩
theorem leafs183 : Leafs Tryz.prog 20 183 = some [9, 9, 4] := by kernel_rfl
theorem open_W {H : Type} {en : TypeId × Value → H} {W : World} {fuel : Nat} {cs : List Value} {x : DataW H × List MemPlace} (h : DataW.trod en Tryz.prog W 0 (fun _ => true) true fuel 180 cs = some x) :
  ∃ (ao : Option Addr) (cap : Nat) (t : List WrR), cs = [.slice ao t.length cap] ∧ OkP (GS.of W).M (.imm (.slice ao t.length cap) 3 WrR t encW) := by
 rcases Go.Deep.open_slice Tryz.underlying180 h with ⟨rfl, _⟩ | ⟨a, len, cap, m, n, D, Pl, rfl, _, hl, hm, rfl, _, hel⟩
 ·exact ⟨none, 0, [], rfl, .imm none 0 rfl (by simp) (by decide) (by decide) (fun q => by simp at q) (fun x hx => by simp at hx) (fun x hx => by simp at hx) (fun i x hx => by simp at hx)⟩
 ·obtain ⟨t, ht, hp⟩ := list_of (p := fun i (x : WrR) => W.cells? 0 (a.add (i * 3)) 3 = some ((encW x).map valP) ∧ (∀ q ∈ encW x, OkP (GS.of W).M q)) len (fun i hi => by
   obtain ⟨cs2, h1, h2⟩ := hel i (by first | omega | (simp; omega))
   obtain ⟨hlen, hleaf⟩ := leafs_trod 20 183 _ leafs183 _ _ _ h2
   obtain ⟨c0, c1, c2, rfl⟩ : ∃ c0 c1 c2, cs2 = [c0, c1, c2] := by
    match cs2, hlen with
    | [c0, c1, c2], _ => exact ⟨c0, c1, c2, rfl⟩
   obtain ⟨z0, rfl, w0⟩ := leaf_str Tryz.underlying9 (hleaf 0 _ _ rfl rfl)
   obtain ⟨z1, rfl, w1⟩ := leaf_str Tryz.underlying9 (hleaf 1 _ _ rfl rfl)
   obtain ⟨z2, rfl⟩ := leaf_bool Tryz.underlying4 (hleaf 2 _ _ rfl rfl)
   refine ⟨⟨z0, z1, z2 = true⟩, ?_, ?_⟩
   ·refine Eq.trans h1 ?_; simp only [encW, List.map_cons, List.map_nil, valP, kOf, prB_eq]
   ·intro q hq; simp only [encW, List.mem_cons, List.not_mem_nil, or_false] at hq
    rcases hq with rfl | rfl | rfl <;> first | exact .sint _ _ | exact .sstr _ | exact .sbool _)
  subst ht
  have r := rdf_of (base := 0) (en := fun x => (encW x).map valP) (w := W) hl hm (by decide) (fun _ => rfl) (fun i x hx => (hp i x hx).1)
  exact ⟨some a, _, t, rfl, .imm (some a) _ rfl r.le r.cap (by decide) r.addr (fun x _ => rfl) (fun x hx => by
   obtain ⟨i, hi⟩ := List.mem_iff_getElem?.1 hx
   exact (hp i x hi).2) r.row⟩
theorem leafs55 : Leafs Tryz.prog 20 55 = some [5, 50] := by kernel_rfl
theorem open_R {H : Type} {en : TypeId × Value → H} {W : World} {fuel : Nat} {cs : List Value} {x : DataW H × List MemPlace} (h : DataW.trod en Tryz.prog W 0 (fun _ => true) true fuel 65 cs = some x) :
  ∃ (ao : Option Addr) (cap : Nat) (t : List PrR), cs = [.slice ao t.length cap] ∧ OkP (GS.of W).M (.imm (.slice ao t.length cap) 2 PrR t encR) := by
 rcases Go.Deep.open_slice Tryz.underlying65 h with ⟨rfl, _⟩ | ⟨a, len, cap, m, n, D, Pl, rfl, _, hl, hm, rfl, _, hel⟩
 ·exact ⟨none, 0, [], rfl, .imm none 0 rfl (by simp) (by decide) (by decide) (fun q => by simp at q) (fun x hx => by simp at hx) (fun x hx => by simp at hx) (fun i x hx => by simp at hx)⟩
 ·obtain ⟨t, ht, hp⟩ := list_of (p := fun i (x : PrR) => W.cells? 0 (a.add (i * 2)) 2 = some ((encR x).map valP) ∧ (∀ q ∈ encR x, OkP (GS.of W).M q)) len (fun i hi => by
   obtain ⟨cs2, h1, h2⟩ := hel i (by first | omega | (simp; omega))
   obtain ⟨hlen, hleaf⟩ := leafs_trod 20 55 _ leafs55 _ _ _ h2
   obtain ⟨c0, c1, rfl⟩ : ∃ c0 c1, cs2 = [c0, c1] := by
    match cs2, hlen with
    | [c0, c1], _ => exact ⟨c0, c1, rfl⟩
   obtain ⟨z0, rfl, w0⟩ := leaf_int Tryz.underlying5 (hleaf 0 _ _ rfl rfl)
   obtain ⟨z1, rfl, w1⟩ := leaf_int Tryz.underlying50 (hleaf 1 _ _ rfl rfl)
   refine ⟨⟨z0, z1⟩, ?_, ?_⟩
   ·exact h1
   ·intro q hq; simp only [encR, List.mem_cons, List.not_mem_nil, or_false] at hq
    rcases hq with rfl | rfl <;> first | exact .sint _ _ | exact .sstr _ | exact .sbool _)
  subst ht
  have r := rdf_of (base := 0) (en := fun x => (encR x).map valP) (w := W) hl hm (by decide) (fun _ => rfl) (fun i x hx => (hp i x hx).1)
  exact ⟨some a, _, t, rfl, .imm (some a) _ rfl r.le r.cap (by decide) r.addr (fun x _ => rfl) (fun x hx => by
   obtain ⟨i, hi⟩ := List.mem_iff_getElem?.1 hx
   exact (hp i x hi).2) r.row⟩
theorem leafs182 : Leafs Tryz.prog 20 182 = some [5, 5, 50, 42, 5, 5, 5, 5, 5, 5, 5, 42, 62, 5, 9, 180, 5, 50] := by kernel_rfl
theorem open_E {H : Type} {en : TypeId × Value → H} {W : World} {fuel : Nat} {cs : List Value} {x : DataW H × List MemPlace} (h : DataW.trod en Tryz.prog W 0 (fun _ => true) true fuel 68 cs = some x) :
  ∃ (ao : Option Addr) (cap : Nat) (t : List EnR), cs = [.slice ao t.length cap] ∧ OkP (GS.of W).M (.imm (.slice ao t.length cap) 18 EnR t encE) := by
 rcases Go.Deep.open_slice Tryz.underlying68 h with ⟨rfl, _⟩ | ⟨a, len, cap, m, n, D, Pl, rfl, _, hl, hm, rfl, _, hel⟩
 ·exact ⟨none, 0, [], rfl, .imm none 0 rfl (by simp) (by decide) (by decide) (fun q => by simp at q) (fun x hx => by simp at hx) (fun x hx => by simp at hx) (fun i x hx => by simp at hx)⟩
 ·obtain ⟨t, ht, hp⟩ := list_of (p := fun i (x : EnR) => W.cells? 0 (a.add (i * 18)) 18 = some ((encE x).map valP) ∧ (∀ q ∈ encE x, OkP (GS.of W).M q)) len (fun i hi => by
   obtain ⟨cs2, h1, h2⟩ := hel i (by first | omega | (simp; omega))
   obtain ⟨hlen, hleaf⟩ := leafs_trod 20 182 _ leafs182 _ _ _ h2
   obtain ⟨c0, c1, c2, c3, c4, c5, c6, c7, c8, c9, c10, c11, c12, c13, c14, c15, c16, c17, rfl⟩ : ∃ c0 c1 c2 c3 c4 c5 c6 c7 c8 c9 c10 c11 c12 c13 c14 c15 c16 c17, cs2 = [c0, c1, c2, c3, c4, c5, c6, c7, c8, c9, c10, c11, c12, c13, c14, c15, c16, c17] := by
    match cs2, hlen with
    | [c0, c1, c2, c3, c4, c5, c6, c7, c8, c9, c10, c11, c12, c13, c14, c15, c16, c17], _ => exact ⟨c0, c1, c2, c3, c4, c5, c6, c7, c8, c9, c10, c11, c12, c13, c14, c15, c16, c17, rfl⟩
   obtain ⟨z0, rfl, w0⟩ := leaf_int Tryz.underlying5 (hleaf 0 _ _ rfl rfl)
   obtain ⟨z1, rfl, w1⟩ := leaf_int Tryz.underlying5 (hleaf 1 _ _ rfl rfl)
   obtain ⟨z2, rfl, w2⟩ := leaf_int Tryz.underlying50 (hleaf 2 _ _ rfl rfl)
   obtain ⟨z3, rfl, w3⟩ := leaf_int Tryz.underlying42 (hleaf 3 _ _ rfl rfl)
   obtain ⟨z4, rfl, w4⟩ := leaf_int Tryz.underlying5 (hleaf 4 _ _ rfl rfl)
   obtain ⟨z5, rfl, w5⟩ := leaf_int Tryz.underlying5 (hleaf 5 _ _ rfl rfl)
   obtain ⟨z6, rfl, w6⟩ := leaf_int Tryz.underlying5 (hleaf 6 _ _ rfl rfl)
   obtain ⟨z7, rfl, w7⟩ := leaf_int Tryz.underlying5 (hleaf 7 _ _ rfl rfl)
   obtain ⟨z8, rfl, w8⟩ := leaf_int Tryz.underlying5 (hleaf 8 _ _ rfl rfl)
   obtain ⟨z9, rfl, w9⟩ := leaf_int Tryz.underlying5 (hleaf 9 _ _ rfl rfl)
   obtain ⟨z10, rfl, w10⟩ := leaf_int Tryz.underlying5 (hleaf 10 _ _ rfl rfl)
   obtain ⟨z11, rfl, w11⟩ := leaf_int Tryz.underlying42 (hleaf 11 _ _ rfl rfl)
   obtain ⟨_, _, hs12⟩ := hleaf 12 _ _ rfl rfl
   obtain ⟨ao12, cap12, t12, e12, ok12⟩ := open_P hs12
   obtain rfl : c12 = _ := by simpa using e12
   obtain ⟨z13, rfl, w13⟩ := leaf_int Tryz.underlying5 (hleaf 13 _ _ rfl rfl)
   obtain ⟨z14, rfl, w14⟩ := leaf_str Tryz.underlying9 (hleaf 14 _ _ rfl rfl)
   obtain ⟨_, _, hs15⟩ := hleaf 15 _ _ rfl rfl
   obtain ⟨ao15, cap15, t15, e15, ok15⟩ := open_W hs15
   obtain rfl : c15 = _ := by simpa using e15
   obtain ⟨z16, rfl, w16⟩ := leaf_int Tryz.underlying5 (hleaf 16 _ _ rfl rfl)
   obtain ⟨z17, rfl, w17⟩ := leaf_int Tryz.underlying50 (hleaf 17 _ _ rfl rfl)
   refine ⟨⟨z0, z1, z2, z3, z4, z5, z6, z7, z8, z9, z10, z11, .slice ao12 t12.length cap12, t12, z13, z14, .slice ao15 t15.length cap15, t15, z16, z17⟩, ?_, ?_⟩
   ·exact h1
   ·intro q hq; simp only [encE, List.mem_cons, List.not_mem_nil, or_false] at hq
    rcases hq with rfl | rfl | rfl | rfl | rfl | rfl | rfl | rfl | rfl | rfl | rfl | rfl | rfl | rfl | rfl | rfl | rfl | rfl <;> first | exact .sint _ _ | exact .sstr _ | exact .sbool _ | exact ok12 | exact ok15)
  subst ht
  have r := rdf_of (base := 0) (en := fun x => (encE x).map valP) (w := W) hl hm (by decide) (fun _ => rfl) (fun i x hx => (hp i x hx).1)
  exact ⟨some a, _, t, rfl, .imm (some a) _ rfl r.le r.cap (by decide) r.addr (fun x _ => rfl) (fun x hx => by
   obtain ⟨i, hi⟩ := List.mem_iff_getElem?.1 hx
   exact (hp i x hi).2) r.row⟩
theorem leafsA : Leafs Tryz.prog 20 72 = some [3, 3, 5, 50, 5, 5, 5, 42, 42, 42, 42, 56, 56, 5, 50, 42, 5, 5, 5, 5, 5, 5, 5, 62, 5, 9, 5, 42, 65, 5, 50, 4, 65, 68, 68] := by kernel_rfl
theorem bytesP : Tryz.prog.bytesOf 178 = 48 := by kernel_rfl
theorem own : ownKnob Tryz.prog.godebug = none := by kernel_rfl
theorem laidOut : laidOutB Tryz.prog = true := by kernel_rfl
noncomputable abbrev aA (k now pn pl : Int) (m : MsR) : List AV := [.agg [.sy (.int 0 k), .sy (.int 0 now), .sy (.int 1 pn), .sy (.int 2 pl), .sy (.int 1 m.kind), .sy (.int 1 m.gr), .sy (.int 1 m.code), .sy (.int 3 m.mn), .sy (.int 3 m.mf), .sy (.int 3 m.mc), .sy (.int 3 m.ml), .sy (.int 4 m.bal), .sy (.int 4 m.acc), .sy (.int 1 m.icn), .sy (.int 2 m.icl), .sy (.int 3 m.iseq), .sy (.int 1 m.idep), .sy (.int 1 m.ip0), .sy (.int 1 m.ip1), .sy (.int 1 m.ip2), .sy (.int 1 m.ip3), .sy (.int 1 m.ip4), .sy (.int 1 m.ip5), .sy (.imm m.hp 5 PtR m.ps Go.Proofs.Tryz.encP), .sy (.int 1 m.rc), .sy (.str m.rv), .sy (.int 1 m.vg), .sy (.int 3 m.vn), .sy (.imm m.hv 2 PrR m.vm encR), .sy (.int 1 m.prn), .sy (.int 2 m.prl), .sy (.bool m.has), .sy (.imm m.hm 2 PrR m.ms encR), .sy (.imm m.he 18 EnR m.es encE), .sy (.imm m.ht 18 EnR m.ts encE)]]
noncomputable abbrev aV (k now pn pl : Int) (m : MsR) : Value := .agg #[.int .i64 k, .int .i64 now, .int .u8 pn, .int .u16 pl, .int .u8 m.kind, .int .u8 m.gr, .int .u8 m.code, .int .u32 m.mn, .int .u32 m.mf, .int .u32 m.mc, .int .u32 m.ml, .int .u64 m.bal, .int .u64 m.acc, .int .u8 m.icn, .int .u16 m.icl, .int .u32 m.iseq, .int .u8 m.idep, .int .u8 m.ip0, .int .u8 m.ip1, .int .u8 m.ip2, .int .u8 m.ip3, .int .u8 m.ip4, .int .u8 m.ip5, m.hp, .int .u8 m.rc, S m.rv, .int .u8 m.vg, .int .u32 m.vn, m.hv, .int .u8 m.prn, .int .u16 m.prl, .bool (prB m.has), m.hm, m.he, m.ht]
theorem walk (k now pn pl : Int) (m : MsR) (w : World) (hl : m.ps.length ≤ 2932031007402) (o0 : OkP (GS.of w).M (.imm m.hp 5 PtR m.ps Go.Proofs.Tryz.encP)) (o1 : OkP (GS.of w).M (.imm m.hv 2 PrR m.vm encR)) (o2 : OkP (GS.of w).M (.imm m.hm 2 PrR m.ms encR)) (o3 : OkP (GS.of w).M (.imm m.he 18 EnR m.es encE)) (o4 : OkP (GS.of w).M (.imm m.ht 18 EnR m.ts encE)) : Calls Tryz.prog 8 #[aV k now pn pl m] w (Ret (GS.of w) [] fun _ v => v = .bool true) := by
 let K : AV → T → Nat → Bool := fun v _ _ => prB (v = .bool true)
 have hE : EOk ⟨fun _ => .bool true, (GS.of w).M⟩ := fun i => rfl
 have hd : denL ⟨fun _ => .bool true, (GS.of w).M⟩ (fun _ => none) (aA k now pn pl m) = some [aV k now pn pl m] := by
  simp only [denL, den, denS, denP_mk (E := ⟨fun _ => .bool true, (GS.of w).M⟩) o0, denP_mk (E := ⟨fun _ => .bool true, (GS.of w).M⟩) o1, denP_mk (E := ⟨fun _ => .bool true, (GS.of w).M⟩) o2, denP_mk (E := ⟨fun _ => .bool true, (GS.of w).M⟩) o3, denP_mk (E := ⟨fun _ => .bool true, (GS.of w).M⟩) o4, valP, kOf]
 refine Tryz.na_seatNil (aA k now pn pl m) [aV k now pn pl m] ⟨fun _ => .bool true, (GS.of w).M⟩ (fun _ => none) (GS.of w) [] .leaf 0 w K _ hE (Sim.start rfl (Holds.start w)) hd ?_ ?_
 ·exact exB_mk ⟨k, now, pn, pl, m⟩ (mustP rfl (mustP (by exact hl) (prB_true.2 rfl)))
 ·intro v M' nx' E' ρ' w' z hk h1 h2 h3 h4 h5
  obtain ⟨G', g1, g2, g3⟩ := h4.holds
  refine ⟨z, G', rfl, g1, g2, ?_⟩
  have := prB_true.1 hk
  subst this
  simpa [den] using h5.symm
theorem lifted (os : Os) (started : os.Started) (H : Type) (enc : TypeId × Value → H) :
  ReturnsInHanded {} Tryz.checked os 8 .any (Rows.seatNilSpec.pre6 enc Tryz.prog Tryz.f8 Rows.seatNilRow.domain false) (Rows.seatNilSpec.post enc Tryz.prog Tryz.f8 false true false false) := by
 refine returnsInHanded_of_change_sized (C := Tryz.checked) own started (by kernel_rfl) Tryz.func8
  (ChangeSpec.witness6 (enc := enc) (C := Tryz.checked) false ⟨#[], #[.agg #[.int .i64 0, .int .i64 0, .int .u8 0, .int .u16 0, .int .u8 0, .int .u8 0, .int .u8 0, .int .u32 0, .int .u32 0, .int .u32 0, .int .u32 0, .int .u64 0, .int .u64 0, .int .u8 0, .int .u16 0, .int .u32 0, .int .u8 0, .int .u8 0, .int .u8 0, .int .u8 0, .int .u8 0, .int .u8 0, .int .u8 0, .slice none 0 0, .int .u8 0, S [], .int .u8 0, .int .u32 0, .slice none 0 0, .int .u8 0, .int .u16 0, .bool false, .slice none 0 0, .slice none 0 0, .slice none 0 0]], []⟩ 8 (by kernel_rfl) (by kernel_rfl) (by kernel_rfl) (by kernel_rfl)) ?_
 intro W base args ds gs before hval0 hW hcnd hsz _
 have hval : ∀ (j : Nat) t v, Tryz.f8.params[j]? = some t → args[j]? = some v → Value.okWide Tryz.prog W .any base t v := hval0
 have hW' := hW
 obtain ⟨p, q, hA0, hV, rfl, hfz, hnd⟩ := hW
 have hA : DataW.TrodAll enc Tryz.prog W 0 (fun _ => true) true Tryz.f8.params.toList args.toList ds p := hA0
 rw [Tryz.params8] at hA hval
 have hz0 : (DataW.weightsEach Tryz.prog (Tryz.f8.params.toList ++ Rows.seatNilSpec.plain.varTypes Tryz.prog) (ds ++ gs)).all (· ≤ reachBytes) = true := hsz
 rw [Tryz.params8] at hz0
 obtain ⟨v0, vs0, d0, ds0, p0, q0, hargs, rfl, rfl, h0, r0⟩ := trodAll_cons hA
 obtain ⟨rfl, rfl, rfl⟩ := trodAll_nil r0
 obtain rfl : args = #[v0] := by cases args; simp_all
 obtain ⟨rfl, rfl⟩ := trodVars_none hV
 have hS : ∀ n, n ∈ d0.weights Tryz.prog 72 → n ≤ reachBytes := fun n hn => by
  have := List.all_eq_true.1 hz0 n (DataW.weights_mem_each (j := 0) (t := 72) (d := d0) rfl rfl n hn)
  simpa using this
 obtain ⟨cs, rfl, hsz⟩ := okWide_struct Tryz.underlying72 (hval 0 72 v0 rfl rfl)
 have j0 := h0
 have lt0 : ∀ x ∈ p0, x.block < W.heap.size := by obtain ⟨m, hm⟩ := j0; exact DataW.trod_lt m _ _ _ hm
 obtain ⟨fuel0, hf0⟩ := h0
 obtain ⟨hlen, hleaf⟩ := leafs_trod 20 72 _ leafsA _ _ _ hf0
 have hwl := leafs_wtrod (S := d0.weights Tryz.prog 72) 20 72 _ leafsA _ _ _ hf0 (fun z hz => hz)
 obtain ⟨c0, c1, c2, c3, c4, c5, c6, c7, c8, c9, c10, c11, c12, c13, c14, c15, c16, c17, c18, c19, c20, c21, c22, c23, c24, c25, c26, c27, c28, c29, c30, c31, c32, c33, c34, hcs⟩ : ∃ c0 c1 c2 c3 c4 c5 c6 c7 c8 c9 c10 c11 c12 c13 c14 c15 c16 c17 c18 c19 c20 c21 c22 c23 c24 c25 c26 c27 c28 c29 c30 c31 c32 c33 c34, Value.cells (.agg cs) = #[c0, c1, c2, c3, c4, c5, c6, c7, c8, c9, c10, c11, c12, c13, c14, c15, c16, c17, c18, c19, c20, c21, c22, c23, c24, c25, c26, c27, c28, c29, c30, c31, c32, c33, c34] := by
  match h : (Value.cells (.agg cs)).toList, hlen with
  | c0 :: c1 :: c2 :: c3 :: c4 :: c5 :: c6 :: c7 :: c8 :: c9 :: c10 :: c11 :: c12 :: c13 :: c14 :: c15 :: c16 :: c17 :: c18 :: c19 :: c20 :: c21 :: c22 :: c23 :: c24 :: c25 :: c26 :: c27 :: c28 :: c29 :: c30 :: c31 :: c32 :: c33 :: c34 :: [], _ => exact ⟨c0, c1, c2, c3, c4, c5, c6, c7, c8, c9, c10, c11, c12, c13, c14, c15, c16, c17, c18, c19, c20, c21, c22, c23, c24, c25, c26, c27, c28, c29, c30, c31, c32, c33, c34, Array.toList_inj.1 h⟩
 have hcs2 : cs = #[c0, c1, c2, c3, c4, c5, c6, c7, c8, c9, c10, c11, c12, c13, c14, c15, c16, c17, c18, c19, c20, c21, c22, c23, c24, c25, c26, c27, c28, c29, c30, c31, c32, c33, c34] := hcs
 rw [hcs] at hleaf hwl
 obtain ⟨z0, rfl, w0⟩ := leaf_int Tryz.underlying3 (hleaf 0 _ _ rfl rfl)
 obtain ⟨z1, rfl, w1⟩ := leaf_int Tryz.underlying3 (hleaf 1 _ _ rfl rfl)
 obtain ⟨z2, rfl, w2⟩ := leaf_int Tryz.underlying5 (hleaf 2 _ _ rfl rfl)
 obtain ⟨z3, rfl, w3⟩ := leaf_int Tryz.underlying50 (hleaf 3 _ _ rfl rfl)
 obtain ⟨z4, rfl, w4⟩ := leaf_int Tryz.underlying5 (hleaf 4 _ _ rfl rfl)
 obtain ⟨z5, rfl, w5⟩ := leaf_int Tryz.underlying5 (hleaf 5 _ _ rfl rfl)
 obtain ⟨z6, rfl, w6⟩ := leaf_int Tryz.underlying5 (hleaf 6 _ _ rfl rfl)
 obtain ⟨z7, rfl, w7⟩ := leaf_int Tryz.underlying42 (hleaf 7 _ _ rfl rfl)
 obtain ⟨z8, rfl, w8⟩ := leaf_int Tryz.underlying42 (hleaf 8 _ _ rfl rfl)
 obtain ⟨z9, rfl, w9⟩ := leaf_int Tryz.underlying42 (hleaf 9 _ _ rfl rfl)
 obtain ⟨z10, rfl, w10⟩ := leaf_int Tryz.underlying42 (hleaf 10 _ _ rfl rfl)
 obtain ⟨z11, rfl, w11⟩ := leaf_int Tryz.underlying56 (hleaf 11 _ _ rfl rfl)
 obtain ⟨z12, rfl, w12⟩ := leaf_int Tryz.underlying56 (hleaf 12 _ _ rfl rfl)
 obtain ⟨z13, rfl, w13⟩ := leaf_int Tryz.underlying5 (hleaf 13 _ _ rfl rfl)
 obtain ⟨z14, rfl, w14⟩ := leaf_int Tryz.underlying50 (hleaf 14 _ _ rfl rfl)
 obtain ⟨z15, rfl, w15⟩ := leaf_int Tryz.underlying42 (hleaf 15 _ _ rfl rfl)
 obtain ⟨z16, rfl, w16⟩ := leaf_int Tryz.underlying5 (hleaf 16 _ _ rfl rfl)
 obtain ⟨z17, rfl, w17⟩ := leaf_int Tryz.underlying5 (hleaf 17 _ _ rfl rfl)
 obtain ⟨z18, rfl, w18⟩ := leaf_int Tryz.underlying5 (hleaf 18 _ _ rfl rfl)
 obtain ⟨z19, rfl, w19⟩ := leaf_int Tryz.underlying5 (hleaf 19 _ _ rfl rfl)
 obtain ⟨z20, rfl, w20⟩ := leaf_int Tryz.underlying5 (hleaf 20 _ _ rfl rfl)
 obtain ⟨z21, rfl, w21⟩ := leaf_int Tryz.underlying5 (hleaf 21 _ _ rfl rfl)
 obtain ⟨z22, rfl, w22⟩ := leaf_int Tryz.underlying5 (hleaf 22 _ _ rfl rfl)
 obtain ⟨_, y23, hs23, hw23⟩ := hwl 23 _ _ rfl rfl
 obtain ⟨ao23, cap23, t23, e23, ok23⟩ := open_P hs23
 obtain rfl : c23 = _ := by simpa using e23
 have hb23 : t23.length ≤ 2932031007402 := by
  rcases slice_weight Tryz.underlying62 hs23 with h0 | ⟨k, hk, hk2⟩
  ·omega
  ·have := hS _ (hw23 _ hk2)
   rw [bytesP] at this
   have e : reachBytes = 140737488351232 := rfl
   omega
 obtain ⟨z24, rfl, w24⟩ := leaf_int Tryz.underlying5 (hleaf 24 _ _ rfl rfl)
 obtain ⟨z25, rfl, w25⟩ := leaf_str Tryz.underlying9 (hleaf 25 _ _ rfl rfl)
 obtain ⟨z26, rfl, w26⟩ := leaf_int Tryz.underlying5 (hleaf 26 _ _ rfl rfl)
 obtain ⟨z27, rfl, w27⟩ := leaf_int Tryz.underlying42 (hleaf 27 _ _ rfl rfl)
 obtain ⟨_, _, hs28⟩ := hleaf 28 _ _ rfl rfl
 obtain ⟨ao28, cap28, t28, e28, ok28⟩ := open_R hs28
 obtain rfl : c28 = _ := by simpa using e28
 obtain ⟨z29, rfl, w29⟩ := leaf_int Tryz.underlying5 (hleaf 29 _ _ rfl rfl)
 obtain ⟨z30, rfl, w30⟩ := leaf_int Tryz.underlying50 (hleaf 30 _ _ rfl rfl)
 obtain ⟨z31, rfl⟩ := leaf_bool Tryz.underlying4 (hleaf 31 _ _ rfl rfl)
 obtain ⟨_, _, hs32⟩ := hleaf 32 _ _ rfl rfl
 obtain ⟨ao32, cap32, t32, e32, ok32⟩ := open_R hs32
 obtain rfl : c32 = _ := by simpa using e32
 obtain ⟨_, _, hs33⟩ := hleaf 33 _ _ rfl rfl
 obtain ⟨ao33, cap33, t33, e33, ok33⟩ := open_E hs33
 obtain rfl : c33 = _ := by simpa using e33
 obtain ⟨_, _, hs34⟩ := hleaf 34 _ _ rfl rfl
 obtain ⟨ao34, cap34, t34, e34, ok34⟩ := open_E hs34
 obtain rfl : c34 = _ := by simpa using e34
 subst hcs2
 clear hA0 hval0
 simp only [List.append_nil] at hW'
 have hw := walk z0 z1 z2 z3 ⟨z4, z5, z6, z7, z8, z9, z10, z11, z12, z13, z14, z15, z16, z17, z18, z19, z20, z21, z22, .slice ao23 t23.length cap23, t23, z24, z25, z26, z27, .slice ao28 t28.length cap28, t28, z29, z30, z31 = true, .slice ao32 t32.length cap32, t32, .slice ao33 t33.length cap33, t33, .slice ao34 t34.length cap34, t34⟩ W hb23 ok23 ok28 ok32 ok33 ok34
 simp only [aV, prB_eq] at hw
 refine hw.mono fun e W2 ⟨v, G2, he, hG, hh, hv⟩ => ?_
 subst he; subst hv
 have bel : Below W.heap.size W W2 := Holds.below hG hh
 exact ⟨_, rfl, _, _, _, [], _, [], hW', trodAll_mk1 (shut_bool Tryz.underlying4 _), (trodAll_cons_mk (Below.trod laidOut (by kernel_rfl) (of_decide_eq_true (by kernel_rfl)) j0 bel lt0) trodAll_mk0), rfl, bel.frame _, fun h => by cases h⟩
theorem over : Rows.seatNilRow.holds Tryz.pinned (OpenSpec.ofChange Rows.seatNilSpec) :=
 OpenClaim.holds_of_wide 8 Tryz.f8 rfl rfl rfl rfl rfl rfl rfl ⟨rfl, rfl, rfl, rfl, rfl⟩ rfl rfl rfl rfl rfl (by kernel_rfl) Tryz.func8 (by kernel_rfl)
  (of_decide_eq_true (by kernel_rfl)) (by unfold Func.isWrapper; first | (rw [if_pos (by decide +kernel)]; kernel_rfl) | (rw [if_neg (by decide +kernel)]; exact ⟨rfl, rfl⟩))
  (fun os started H enc _ => lifted os started H enc)
theorem holds : Rows.SeatNilSaid := over
#print axioms holds
end Go.Proofs.YtbophbccdmhabaaGreat.seatNil