/- The row of LedgerFaults: what came in, the walk, what is left. No condition beyond the row's own. -/
import Derived.Test.YtediojjcoohhoaaDoorRows
import Derived.Test.YtediojjcoohhoaaDoorTie
import Derived.Test.YtediojjcoohhoaaDoorCards
import Derived.Test.YtediojjcoohhoaaDoorOpen
import Derived.Test.YtediojjcoohhoaaDoorW7
import Derived.WalkKit
import Derived.ProofKit
import Derived.ShutString
import Derived.ChangeOld
import Derived.Below
import Derived.LaidLaws
import Derived.RowKit
import Derived.OpenShut
import Derived.SevenTiedAt
import Derived.KernelRfl
import Derived.ChangeSame
import Derived.ChangeVars
import Derived.JoinedOf
namespace Go.Proofs.YtediojjcoohhoaaDoor.ledgerFaults
open Go Go.RowKit Go.Eng Go.ChangeShapes Go.WideShapes Go.ChangeAt
set_option linter.unusedVariables false
set_option linter.unnecessarySimpa false
set_option maxRecDepth 100000
set_option maxHeartbeats 4000000
theorem leafs35 : Leafs Tryd.prog 20 35 = some [3, 5, 25, 28, 5, 5, 5, 5, 5, 5, 5, 5, 3] := by kernel_rfl
theorem und217 : Tryd.prog.underlying 217 = some (.array 20 48) := by kernel_rfl
theorem und22 : Tryd.prog.underlying 22 = some (.slice 35) := by kernel_rfl
theorem und25 : Tryd.prog.underlying 25 = some (.int .u16) := by kernel_rfl
theorem und28 : Tryd.prog.underlying 28 = some (.int .u32) := by kernel_rfl
theorem und3 : Tryd.prog.underlying 3 = some (.int .i64) := by kernel_rfl
theorem und48 : Tryd.prog.underlying 48 = some (.int .u64) := by kernel_rfl
theorem und5 : Tryd.prog.underlying 5 = some (.int .u8) := by kernel_rfl
theorem undb4 : Tryd.prog.underlying 4 = some .bool := by kernel_rfl
theorem open_a0 {H : Type} {enc : TypeId × Value → H} {W : World} {fuel : Nat} {cs : List Value} {x : DataW H × List MemPlace} (h : DataW.trod enc Tryd.prog W 0 (fun _ => true) true fuel 22 cs = some x) :
    ∃ (ao : Option Addr) (cap : Nat) (t : List Fault), cs = [.slice ao t.length cap] ∧ RdF encFault 13 (GS.of W).M ao cap t ∧ ∀ (i : Nat) (x : Fault), t[i]? = some x → x.ok := by
  rcases Go.Deep.open_slice und22 h with ⟨rfl, _⟩ | ⟨a, len, cap, m, n, D, Pl, rfl, _, hl, hm, rfl, _, hel⟩
  · exact ⟨none, 0, [], rfl, RdF.nil _ _ _ _, fun i x h => by simp at h⟩
  · obtain ⟨t, ht, hp⟩ := list_of (p := fun i (x : Fault) => W.cells? 0 (a.add (i * 13)) 13 = some (encFault x) ∧ x.ok) len (fun i hi => by
      obtain ⟨cs2, h1, h2⟩ := hel i (by first | omega | (simp ; omega))
      obtain ⟨hlen, hleaf⟩ := leafs_trod 20 35 _ leafs35 _ _ _ h2
      obtain ⟨c0, c1, c2, c3, c4, c5, c6, c7, c8, c9, c10, c11, c12, rfl⟩ : ∃ c0 c1 c2 c3 c4 c5 c6 c7 c8 c9 c10 c11 c12, cs2 = [c0, c1, c2, c3, c4, c5, c6, c7, c8, c9, c10, c11, c12] := by
        match cs2, hlen with
        | [c0, c1, c2, c3, c4, c5, c6, c7, c8, c9, c10, c11, c12], _ => exact ⟨c0, c1, c2, c3, c4, c5, c6, c7, c8, c9, c10, c11, c12, rfl⟩
      obtain ⟨z0, rfl, w0⟩ := leaf_int und3 (hleaf 0 _ _ rfl rfl)
      have w0 := bounds_i64 w0
      obtain ⟨z1, rfl, w1⟩ := leaf_int und5 (hleaf 1 _ _ rfl rfl)
      have w1 := bounds_u8 w1
      obtain ⟨z2, rfl, w2⟩ := leaf_int und25 (hleaf 2 _ _ rfl rfl)
      have w2 := bounds_u16 w2
      obtain ⟨z3, rfl, w3⟩ := leaf_int und28 (hleaf 3 _ _ rfl rfl)
      have w3 := bounds_u32 w3
      obtain ⟨z4, rfl, w4⟩ := leaf_int und5 (hleaf 4 _ _ rfl rfl)
      have w4 := bounds_u8 w4
      obtain ⟨z5, rfl, w5⟩ := leaf_int und5 (hleaf 5 _ _ rfl rfl)
      have w5 := bounds_u8 w5
      obtain ⟨z6, rfl, w6⟩ := leaf_int und5 (hleaf 6 _ _ rfl rfl)
      have w6 := bounds_u8 w6
      obtain ⟨z7, rfl, w7⟩ := leaf_int und5 (hleaf 7 _ _ rfl rfl)
      have w7 := bounds_u8 w7
      obtain ⟨z8, rfl, w8⟩ := leaf_int und5 (hleaf 8 _ _ rfl rfl)
      have w8 := bounds_u8 w8
      obtain ⟨z9, rfl, w9⟩ := leaf_int und5 (hleaf 9 _ _ rfl rfl)
      have w9 := bounds_u8 w9
      obtain ⟨z10, rfl, w10⟩ := leaf_int und5 (hleaf 10 _ _ rfl rfl)
      have w10 := bounds_u8 w10
      obtain ⟨z11, rfl, w11⟩ := leaf_int und5 (hleaf 11 _ _ rfl rfl)
      have w11 := bounds_u8 w11
      obtain ⟨z12, rfl, w12⟩ := leaf_int und3 (hleaf 12 _ _ rfl rfl)
      have w12 := bounds_i64 w12
      exact ⟨(⟨z0, (⟨(⟨z1, z2⟩ : Proc), z3, z4, (⟨z5, z6⟩ : Step), (⟨z7, z8⟩ : Step), (⟨z9, z10⟩ : Step)⟩ : ID), z11, z12⟩ : Fault), h1, by simp only [Fault.ok, Fault.ok, ID.ok, Proc.ok, Step.ok] ; omega⟩)
    subst ht
    exact ⟨some a, _, t, rfl, rdf_of (base := 0) hl hm (by decide) (fun _ => rfl) (fun i x hx => (hp i x hx).1), fun i x hx => (hp i x hx).2⟩
theorem own : ownKnob Tryd.prog.godebug = none := by kernel_rfl
theorem laidOut : laidOutB Tryd.prog = true := by kernel_rfl
theorem gtab_of_laid {W : World} (h : laidMet Tryd.prog Rows.ledgerFaultsRow.laid W) : GTab (GS.of W) := by
  obtain ⟨ps, h, _⟩ := h
  obtain ⟨_, _, _, _, _, _, _, _, _, _, h, _⟩ := h
  obtain ⟨_, _, _, _, _, _, _, _, _, _, h, _⟩ := h
  obtain ⟨g, t, cs, fuel, p, q, hg, ht, hvar, hd, _, _⟩ := h
  obtain rfl := Option.some.inj ((show Tryd.prog.globalNamed "internal/strconv.uint64pow10" = some 0 by kernel_rfl).symm.trans hg)
  obtain rfl := Option.some.inj ((show (Tryd.prog.globals[0]?).map (·.type) = some 217 by kernel_rfl).symm.trans ht)
  have e := Lib.cells_of_tab (zs := Lib.pow10Tab) (k := .u64) und217 und48 (by kernel_rfl) (by kernel_rfl) hd
  simp only [World.var?, hg, Option.bind_some] at hvar
  rcases hh : W.heap[0]? with _ | o
  · simp [hh] at hvar
  · cases o <;> simp [hh] at hvar
    rename_i c T fz
    subst hvar
    refine ⟨0, T, fz, hg, ?_⟩
    simp only [GS.of, hh]
    rw [← e]
noncomputable def laidWorld (os : Os) : World :=
  let w0 := World.holding Tryd.prog os ⟨#[], #[], []⟩
  { w0 with heap := (((w0.heap.modify 2 fun
      | .cells _ t frozen => .cells #[.int .u8 0, .int .u8 1, .int .u8 28, .int .u8 2, .int .u8 29, .int .u8 14, .int .u8 24, .int .u8 3, .int .u8 30, .int .u8 22, .int .u8 20, .int .u8 15, .int .u8 25, .int .u8 17, .int .u8 4, .int .u8 8, .int .u8 31, .int .u8 27, .int .u8 13, .int .u8 23, .int .u8 21, .int .u8 19, .int .u8 16, .int .u8 7, .int .u8 26, .int .u8 12, .int .u8 18, .int .u8 6, .int .u8 11, .int .u8 5, .int .u8 10, .int .u8 9] t frozen
      | o => o).modify 3 fun
      | .cells _ t frozen => .cells #[.int .u8 0, .int .u8 1, .int .u8 56, .int .u8 2, .int .u8 57, .int .u8 49, .int .u8 28, .int .u8 3, .int .u8 61, .int .u8 58, .int .u8 42, .int .u8 50, .int .u8 38, .int .u8 29, .int .u8 17, .int .u8 4, .int .u8 62, .int .u8 47, .int .u8 59, .int .u8 36, .int .u8 45, .int .u8 43, .int .u8 51, .int .u8 22, .int .u8 53, .int .u8 39, .int .u8 33, .int .u8 30, .int .u8 24, .int .u8 18, .int .u8 12, .int .u8 5, .int .u8 63, .int .u8 55, .int .u8 48, .int .u8 27, .int .u8 60, .int .u8 41, .int .u8 37, .int .u8 16, .int .u8 46, .int .u8 35, .int .u8 44, .int .u8 21, .int .u8 52, .int .u8 32, .int .u8 23, .int .u8 11, .int .u8 54, .int .u8 26, .int .u8 40, .int .u8 15, .int .u8 34, .int .u8 20, .int .u8 31, .int .u8 10, .int .u8 25, .int .u8 14, .int .u8 19, .int .u8 9, .int .u8 13, .int .u8 8, .int .u8 7, .int .u8 6] t frozen
      | o => o).modify 0 fun
      | .cells _ t frozen => .cells #[.int .u64 1, .int .u64 10, .int .u64 100, .int .u64 1000, .int .u64 10000, .int .u64 100000, .int .u64 1000000, .int .u64 10000000, .int .u64 100000000, .int .u64 1000000000, .int .u64 10000000000, .int .u64 100000000000, .int .u64 1000000000000, .int .u64 10000000000000, .int .u64 100000000000000, .int .u64 1000000000000000, .int .u64 10000000000000000, .int .u64 100000000000000000, .int .u64 1000000000000000000, .int .u64 10000000000000000000] t frozen
      | o => o) }
theorem laidWorld_met (os : Os) (args : Array Value) : laidMet Tryd.prog Rows.ledgerFaultsRow.laid ((laidWorld os).forCall (fun _ _ => 0) ⟨#[], args, []⟩).memory :=
  laidMet_of_run' 8 (by kernel_rfl) (by kernel_rfl)
theorem lifted (os : Os) (started : os.Started) (H : Type) (enc : TypeId × Value → H) :
    ReturnsInHanded {} Tryd.checked os 3 .any (fun w args => (Rows.ledgerFaultsSpec.pre enc Tryd.prog Tryd.f3 Rows.ledgerFaultsRow.domain false w args ∧ laidMet Tryd.prog Rows.ledgerFaultsRow.laid w) ∧ sizedMet enc Tryd.prog Tryd.f3 (OpenSpec.ofChange Rows.ledgerFaultsSpec) false w args)
      (Rows.ledgerFaultsSpec.post enc Tryd.prog Tryd.f3 false true false false) := by
  refine returnsInHanded_of_change_and (C := Tryd.checked) (X := fun w _ => laidMet Tryd.prog Rows.ledgerFaultsRow.laid w) (fun _ _ _ hh h => h.of_heap hh) own started (by kernel_rfl) Tryd.func3
    (ChangeSpec.witness_at (enc := enc) (C := Tryd.checked) (os := os) (X := fun w _ => laidMet Tryd.prog Rows.ledgerFaultsRow.laid w) false (laidWorld os) #[.slice none 0 0] 8 rfl (by kernel_rfl) (by kernel_rfl) (by kernel_rfl) (by kernel_rfl) (by kernel_rfl) (laidWorld_met os _)) ?_
  intro W base args ds gs before hval0 hW _ _ hL _
  have hval : ∀ (j : Nat) t v, Tryd.f3.params[j]? = some t → args[j]? = some v → Value.okWide Tryd.prog W .any base t v := hval0
  have hW' := hW
  obtain ⟨p, q, hA0, hV, rfl, hfz, hnd⟩ := hW
  have hA : DataW.TrodAll enc Tryd.prog W 0 (fun _ => true) true Tryd.f3.params.toList args.toList ds p := hA0
  rw [Tryd.params3] at hA hval
  obtain ⟨v0, vs0, d0, ds0, p0, q0, hargs, rfl, rfl, h0, r0⟩ := trodAll_cons hA
  obtain ⟨rfl, rfl, rfl⟩ := trodAll_nil r0
  obtain rfl : args = #[v0] := by cases args; simp_all
  obtain ⟨rfl, rfl⟩ := trodVars_none hV
  obtain ⟨a0, len0, cap0, rfl⟩ := okWide_slice und22 (hval 0 22 v0 rfl rfl)
  have k0 := h0
  have lt0 : ∀ x ∈ p0, x.block < W.heap.size := by obtain ⟨m, hm⟩ := k0; exact DataW.trod_lt m _ _ _ hm
  obtain ⟨fuel0, hf0⟩ := h0
  obtain ⟨ao0, ca0, t0, hc0, hr0, hk0⟩ := open_a0 hf0
  simp only [Value.cells, List.cons.injEq, Value.slice.injEq, and_true] at hc0
  obtain ⟨rfl, rfl, rfl⟩ := hc0
  clear hA0 hval0
  refine (ledgerFaults_spec a0 cap0 t0 hr0 (gtab_of_laid hL) hk0 (Holds.start W)).mono fun e W2 ⟨v, G2, he, hG, hh, hv⟩ => ?_
  subst he; subst hv
  have bel : Below W.heap.size W W2 := Holds.below hG hh
  exact ⟨_, rfl, _, _, _, [], _, [], hW', trodAll_mk1 (shut_bool undb4 _), (trodAll_cons_mk (Below.trod laidOut (by kernel_rfl) (of_decide_eq_true (by kernel_rfl)) k0 bel lt0) trodAll_mk0), rfl, bel.frame _, fun h => by cases h⟩
theorem over : Rows.ledgerFaultsRow.holds Tryd.pinned (OpenSpec.ofChange Rows.ledgerFaultsSpec) :=
  OpenClaim.holds_of_wide 3 Tryd.f3 rfl rfl rfl rfl rfl rfl rfl ⟨rfl, rfl, rfl, rfl, rfl⟩ rfl rfl rfl rfl rfl (by kernel_rfl) Tryd.func3 (by kernel_rfl)
    (of_decide_eq_true (by kernel_rfl)) (by unfold Func.isWrapper; first | (rw [if_pos (by decide +kernel)]; kernel_rfl) | (rw [if_neg (by decide +kernel)]; exact ⟨rfl, rfl⟩))
    (fun os started H enc _ => lifted os started H enc)
theorem card_holds : Rows.LedgerFaultsCardSaid :=
  Claim7.holds_tied_plain_at .later [] [.data, .data, .data] true (true, "804a86061b01743256585390340a70adb9e1b15db8d87c667d34798101476c35") false over (fun _ h => by cases h) (by kernel_rfl) (fun _ h => by cases h) ledgerFaults_row_tie rfl ⟨rfl, rfl⟩ (by kernel_rfl) rfl
    (fun f fn hf hfn => by
      obtain rfl : f = 3 := Option.some.inj ((show Tryd.prog.funcNamed "gemot/gemotlaw28.LedgerFaults" = some 3 by kernel_rfl).symm.trans hf) |>.symm
      obtain rfl : fn = Tryd.f3 := (Option.some.inj (Tryd.func3.symm.trans hfn)).symm
      exact ⟨by kernel_rfl, fun j t ht => by
        rw [Tryd.params3] at ht
        have ht2 := List.mem_of_getElem? (by simpa using ht)
        simp only [List.mem_cons, List.not_mem_nil, or_false] at ht2
        rcases ht2 with rfl
        · exact (show Tryd.prog.wantsStandIn 22 = false by kernel_rfl)
        ⟩)
    (by kernel_rfl)
#print axioms card_holds
end Go.Proofs.YtediojjcoohhoaaDoor.ledgerFaults
