/- Definitions and lemmas of the proof, without a condition of their own. -/
import Derived.Test.YticgbaogfmafoaaM1
import Derived.LoopN
import Derived.Laws.ResultCell
import Derived.Lib.ItoaMem
import Derived.Lib.Join
import Derived.Test.YticgbaogfmafoaaProg
import Derived.KernelRfl
import Derived.RangeFuncBox
import Derived.RangeFuncLeaves
import Derived.RangeFuncFrom
import Derived.Shelf.Abstract
import Derived.WalkKit
import Derived.OwnWalkIn
import Derived.TacticsInMore
import Derived.LoopNIn
import Derived.LoopIn
import Derived.Maps.AppendAt
import Derived.Sort.MapsRangeIn
namespace Go.Sy
open Go Go.RowKit Go.Eng
section
variable {P : Program} {E : Env} {ρ : Ren} {G : GS} {F : List Chunk} {M : T} {nx : Nat} {w : World}
noncomputable def bornV (v : AV) (Ty sz : Nat) (α : Type) (enc : α → List PL) (M : T) (nx : Nat) (K : AV → T → Nat → Bool) : Bool := ifB (isSy v) (asSy v fun s => SY.casesOn s (fun _ _ => false) (fun _ => false) (fun _ => false) (fun _ _ _ _ _ => false) (fun _ _ _ => false) (fun i n => prowOf M i fun Ty' sz' _ l _ => must (Nat.beq Ty Ty') (must (Nat.beq sz sz') (must (prB (l = [])) (T.set fuelT M i (some (.prow Ty sz α [] enc)) fun M' => K (.sy (.prow i n)) M' nx)))) (fun _ _ _ _ => false) (fun _ _ _ _ => false) (fun _ _ _ => false) (fun _ => false)) (asSl v
  (must (Nat.blt 0 sz) (T.set fuelT M nx (some (.prow Ty sz α [] enc)) fun M' => fN (Nat.succ nx) fun q => K (.sy (.prow nx 0)) M' q))
  (fun i o n c => must (Nat.beq o 0) (blkOf M i fun g Ty' sz' els => must (Nat.beq Ty Ty') (must (Nat.beq sz sz') (ACap.casesOn c
    (fun c => must (Bool.rec true false g) (must (Nat.beq n 0) (must (Nat.beq (lenL els) c) (must (Nat.ble c 9223372036854775807)
      (T.set fuelT M i none fun M1 => T.set fuelT M1 nx (some (.prow Ty sz α [] enc)) fun M' => fN (Nat.succ nx) fun q => K (.sy (.prow nx 0)) M' q)))))
    (fun k => must (Nat.beq k 0) (must g (must (Nat.beq (lenL els) n) (toPss els fun pss => exB fun l : List α => must (prB (l.map enc = pss))
      (T.set fuelT M i none fun M1 => T.set fuelT M1 nx (some (.prow Ty sz α l enc)) fun M' => fN (Nat.succ nx) fun q => K (.sy (.prow nx l.length)) M' q))))))))))
theorem Sim.nilRow (h : Sim E ρ G F M nx w) {M' : T} {Ty sz : Nat} {α : Type} {enc : α → List PL} (hsz : 0 < sz) (h1 : M'.get nx = some (.prow Ty sz α [] enc)) (h2 : ∀ m, m ≠ nx → M'.get m = M.get m) : Sim E (ρ.set nx ⟨0, 0⟩) G F M' (nx + 1) w := by
  have h0 := h.fresh nx (Nat.le_refl _)
  have hle := Ren.le_set (ρ := ρ) ⟨0, 0⟩ h0
  obtain ⟨c, hh, hob, hinj⟩ := h.ex
  refine ⟨⟨c, hh, fun j o hj => ?_, fun j k e f o o' hj hk he hf hb1 hb2 hb => ?_⟩, h.mem, fun j hj => ?_⟩
  · by_cases q : j = nx
    · subst q
      rw [h1] at hj; cases hj
      exact ⟨_, Ren.set_self _ _ _, .inr ⟨rfl, rfl, hsz⟩⟩
    · rw [h2 j q] at hj
      obtain ⟨e, a1, ⟨q1, ob, q2, q3⟩ | q1⟩ := hob j o hj
      · exact ⟨e, hle _ _ a1, .inl ⟨q1, ob, q2, q3.mono hle⟩⟩
      · exact ⟨e, hle _ _ a1, .inr q1⟩
  · have nb : ∀ m e o, M'.get m = some o → ρ.set nx ⟨0, 0⟩ m = some e → hasB e o = true → m ≠ nx := fun m e o q1 q2 q3 q4 => by
      subst q4
      rw [h1] at q1; cases q1
      rw [Ren.set_self] at q2; cases q2
      cases q3
    have nj := nb j e o hj he hb1
    have nk := nb k f o' hk hf hb2
    rw [h2 j nj] at hj
    rw [h2 k nk] at hk
    rw [Ren.set_ne _ nj] at he
    rw [Ren.set_ne _ nk] at hf
    exact hinj j k e f o o' hj hk he hf hb1 hb2 hb
  · rw [Ren.set_ne _ (by omega)]
    exact h.fresh j (by omega)
theorem Sim.rekey (h : Sim E ρ G F M nx w) {i : Nat} {o o' : AObj} {e e' : REnt} {M' : T} (hi : M.get i = some o) (he : ρ i = some e) (hb : e'.b = e.b) (hB : hasB e o = true) (hB' : hasB e' o' = true) (hr : ∀ ob, ORel E ρ e o ob → ORel E ρ e' o' ob)
    (h1 : M'.get nx = some o') (h2 : ∀ m, m ≠ nx → m ≠ i → M'.get m = M.get m) (h3 : M'.get i = none) : Sim E (ρ.set nx e') G F M' (nx + 1) w := by
  have h0 := h.fresh nx (Nat.le_refl _)
  have hle := Ren.le_set (ρ := ρ) e' h0
  have hinx : i ≠ nx := fun q => by rw [q, h0] at he; cases he
  obtain ⟨c, hh, hob, hinj⟩ := h.ex
  refine ⟨⟨c, hh, fun j o2 hj => ?_, fun j k f1 f2 o1 o2 hj hk hf1 hf2 hb1 hb2 hbb => ?_⟩, h.mem, fun j hj => ?_⟩
  · by_cases q : j = nx
    · subst q
      rw [h1] at hj; cases hj
      obtain ⟨f, a1, ⟨q1, ob, q2, q3⟩ | ⟨q1, _⟩⟩ := hob i o hi
      · rw [he] at a1; cases a1
        exact ⟨e', Ren.set_self _ _ _, .inl ⟨hB', ob, by rw [hb]; exact q2, (hr ob q3).mono hle⟩⟩
      · rw [he] at a1; cases a1
        rw [hB] at q1; cases q1
    · have qi : j ≠ i := fun q => by subst q; rw [h3] at hj; cases hj
      rw [h2 j q qi] at hj
      obtain ⟨f, a1, ⟨q1, ob, q2, q3⟩ | q1⟩ := hob j o2 hj
      · exact ⟨f, hle _ _ a1, .inl ⟨q1, ob, q2, q3.mono hle⟩⟩
      · exact ⟨f, hle _ _ a1, .inr q1⟩
  · have old : ∀ m, m ≠ nx → ∀ o3, M'.get m = some o3 → m ≠ i ∧ M.get m = some o3 := fun m q o3 q2 => by
      have qi : m ≠ i := fun q => by subst q; rw [h3] at q2; cases q2
      exact ⟨qi, by rw [← h2 m q qi]; exact q2⟩
    by_cases q1 : j = nx
    · by_cases q2 : k = nx
      · omega
      · exfalso
        subst q1
        rw [Ren.set_self] at hf1; cases hf1
        rw [Ren.set_ne _ q2] at hf2
        obtain ⟨p1, p2⟩ := old k q2 o2 hk
        exact p1 (hinj k i f2 e o2 o p2 hi hf2 he hb2 hB (by rw [← hb, hbb]))
    · by_cases q2 : k = nx
      · exfalso
        subst q2
        rw [Ren.set_self] at hf2; cases hf2
        rw [Ren.set_ne _ q1] at hf1
        obtain ⟨p1, p2⟩ := old j q1 o1 hj
        exact p1 (hinj j i f1 e o1 o p2 hi hf1 he hb1 hB (by rw [hbb, hb]))
      · rw [Ren.set_ne _ q1] at hf1
        rw [Ren.set_ne _ q2] at hf2
        exact hinj j k f1 f2 o1 o2 (old j q1 o1 hj).2 (old k q2 o2 hk).2 hf1 hf2 hb1 hb2 hbb
  · rw [Ren.set_ne _ (by omega)]
    exact h.fresh j (by omega)
theorem Sim.reobj (h : Sim E ρ G F M nx w) {i : Nat} {o o' : AObj} (hi : M.get i = some o) (hB : ∀ e, hasB e o' = hasB e o) (hr : ∀ e ob, ρ i = some e → ORel E ρ e o ob → ORel E ρ e o' ob) (hn : NilO o → NilO o') {M' : T} (h1 : M'.get i = some o') (h2 : ∀ m, m ≠ i → M'.get m = M.get m) : Sim E ρ G F M' nx w := by
  obtain ⟨c, hh, hob, hinj⟩ := h.ex
  have old : ∀ m o2, M'.get m = some o2 → ∃ o3, M.get m = some o3 ∧ ∀ e, hasB e o2 = hasB e o3 := fun m o2 hm => by
    by_cases q1 : m = i
    · subst q1
      rw [h1] at hm; cases hm
      exact ⟨_, hi, hB⟩
    · rw [h2 m q1] at hm
      exact ⟨o2, hm, fun e => rfl⟩
  refine ⟨⟨c, hh, fun m o2 hm => ?_, fun m k e f o2 o3 hm hk he hf hb1 hb2 hb => ?_⟩, h.mem, h.fresh⟩
  · by_cases q1 : m = i
    · subst q1
      rw [h1] at hm; cases hm
      obtain ⟨e, a1, ⟨b1, ob, b2, b3⟩ | ⟨b1, b2⟩⟩ := hob m _ hi
      · exact ⟨e, a1, .inl ⟨by rw [hB]; exact b1, ob, b2, hr e ob a1 b3⟩⟩
      · exact ⟨e, a1, .inr ⟨by rw [hB]; exact b1, hn b2⟩⟩
    · rw [h2 m q1] at hm
      exact hob m o2 hm
  · obtain ⟨o4, f1, f2⟩ := old m o2 hm
    obtain ⟨o5, f3, f4⟩ := old k o3 hk
    rw [f2] at hb1
    rw [f4] at hb2
    exact hinj m k e f o4 o5 f1 f3 he hf hb1 hb2 hb
theorem bornV_ok (h : Sim E ρ G F M nx w) {v : AV} {Ty sz : Nat} {α : Type} {enc : α → List PL} {K : AV → T → Nat → Bool} (hk : bornV v Ty sz α enc M nx K = true) :
    ∃ v' M' nx' ρ', ρ.Le ρ' ∧ Sim E ρ' G F M' nx' w ∧ K v' M' nx' = true ∧ (∀ x, den E ρ v = some x → den E ρ' v' = some x) ∧ v ≠ .bad := by
  have h0 := h.fresh nx (Nat.le_refl _)
  rcases ifB_ok hk with ⟨-, g⟩ | ⟨-, hk⟩
  · replace g := asSy_ok g
    clear hk
    obtain ⟨s, rfl, g⟩ := g
    cases s <;> first | (cases g; done) | skip
    case prow i n =>
      obtain ⟨Ty', sz', α', l, enc', hi, g1⟩ := prowOf_ok g
      obtain ⟨q1, g2⟩ := must_ok g1
      obtain ⟨q2, g3⟩ := must_ok g2
      have q1 := Nat.eq_of_beq_eq_true q1
      have q2 := Nat.eq_of_beq_eq_true q2
      subst q1; subst q2
      obtain ⟨hl, g4⟩ := mustP_ok g3
      subst hl
      obtain ⟨M', g5, s1, s2⟩ := T.set_ok _ _ _ _ _ g4
      refine ⟨_, M', nx, ρ, Ren.Le.refl _, h.reobj (o' := .prow Ty sz α [] enc) hi (fun e => rfl) (fun e ob _ hr => ?_) (fun q => ⟨rfl, q.2⟩) s1 s2, g5, fun x hx => hx, by simp⟩
      obtain ⟨arr, xs, o1, o2, o3, o4, o5, o6, o7⟩ := hr
      exact ⟨arr, xs, o1, o2, fun y hy => (by simp at hy), by simpa using o4, o5, o6, o7⟩
  rcases asSl_ok hk with ⟨e, g⟩ | ⟨i, o, n, c, e, g⟩
  · obtain ⟨g1, g2⟩ := must_ok g
    rw [Nat.blt_eq] at g1
    obtain ⟨M', k1, s1, s2⟩ := T.set_ok _ _ _ _ _ g2
    rw [fN_eq] at k1
    have hle := Ren.le_set (ρ := ρ) ⟨0, 0⟩ h0
    refine ⟨_, M', nx + 1, _, hle, h.nilRow g1 s1 s2, k1, (fun x hx => ?_), (by rw [e]; simp)⟩
    rw [e] at hx
    cases hx
    simp [den, denS, Ren.set_self, hdrP]
  · obtain ⟨q2, g2⟩ := must_ok g
    have q2 := Nat.eq_of_beq_eq_true q2
    subst q2
    obtain ⟨gr, Ty', sz', els, hi, g3⟩ := blkOf_ok g2
    obtain ⟨q4, g5⟩ := must_ok g3
    obtain ⟨q5, g6⟩ := must_ok g5
    have q4 := Nat.eq_of_beq_eq_true q4
    have q5 := Nat.eq_of_beq_eq_true q5
    subst q4; subst q5
    obtain ⟨f, arr, xs, e1, e2, e3, e4, e5, e6, e7, e8, e9⟩ := h.cellsAt hi
    have hinx : i ≠ nx := fun q => by rw [q, h0] at e1; cases e1
    cases c with
    | ex c =>
      obtain ⟨q1, g7⟩ := must_ok g6
      obtain ⟨q3, g8⟩ := must_ok g7
      obtain ⟨q6, g9⟩ := must_ok g8
      obtain ⟨q7, g10⟩ := must_ok g9
      have q1 : gr = false := by cases gr; rfl; cases q1
      subst q1
      have q3 := Nat.eq_of_beq_eq_true q3
      subst q3
      have q6 : els.length = c := by rw [← lenL_eq]; exact Nat.eq_of_beq_eq_true q6
      rw [Nat.ble_eq] at q7
      obtain ⟨M1, k1, s1, s2⟩ := T.set_ok _ _ _ _ _ g10
      obtain ⟨M', k2, s3, s4⟩ := T.set_ok _ _ _ _ _ k1
      rw [fN_eq] at k2
      have hle := Ren.le_set (ρ := ρ) ⟨f.b, c + 1⟩ h0
      refine ⟨_, M', nx + 1, _, hle, h.rekey (o' := .prow Ty sz α [] enc) (e' := ⟨f.b, c + 1⟩) hi e1 rfl rfl (hasB_prow rfl) (fun ob hr => ?_) s3 (fun m a1 a2 => by rw [s4 m a1, s2 m a2]) (by rw [s4 i hinx, s1]), k2, (fun x hx => ?_), (by rw [e]; simp)⟩
      · obtain ⟨_, _, arr', xs', o1, o2, o3⟩ := hr
        simp only [cond_false] at o3
        have hl := denL_len o2
        rw [flat_len e4, ← o3, Array.length_toList] at hl
        refine ⟨arr', [], o1, e5, fun y hy => (by simp at hy), by simp [denPs], ?_, by simp, by simp, by simpa [maxLen] using q7⟩
        simp only [Nat.add_sub_cancel]
        rw [hl, q6]
      · rw [e] at hx
        simp only [den, e1, capOf] at hx
        cases hx
        simp [den, denS, Ren.set_self, hdrP]
    | rest k =>
      obtain ⟨q1, g7⟩ := must_ok g6
      have q1 := Nat.eq_of_beq_eq_true q1
      subst q1
      obtain ⟨q3, g8⟩ := must_ok g7
      subst q3
      obtain ⟨q6, g9⟩ := must_ok g8
      have q6 : els.length = n := by rw [← lenL_eq]; exact Nat.eq_of_beq_eq_true q6
      obtain ⟨p1, p2, p3⟩ := e9 rfl
      obtain ⟨pss, g10, r1, r2, r3, r4⟩ := toPss_ok e3 e4 g9
      obtain ⟨l, g11⟩ := exB_ok g10
      obtain ⟨hl, g12⟩ := mustP_ok g11
      obtain ⟨M1, k1, s1, s2⟩ := T.set_ok _ _ _ _ _ g12
      obtain ⟨M', k2, s3, s4⟩ := T.set_ok _ _ _ _ _ k1
      rw [fN_eq] at k2
      have hle := Ren.le_set (ρ := ρ) ⟨f.b, f.cap + 1⟩ h0
      have hlen : l.length = els.length := by rw [← r4, ← hl, List.length_map]
      refine ⟨_, M', nx + 1, _, hle, h.rekey (o' := .prow Ty sz α l enc) (e' := ⟨f.b, f.cap + 1⟩) hi e1 rfl rfl (hasB_prow rfl) (fun ob hr => ?_) s3 (fun m a1 a2 => by rw [s4 m a1, s2 m a2]) (by rw [s4 i hinx, s1]), k2, (fun x hx => ?_), (by rw [e]; simp)⟩
      · obtain ⟨_, _, arr', xs', o1, o2, o3⟩ := hr
        rw [e3] at o2
        cases o2
        simp only [cond_true] at o3
        obtain ⟨u1, u2, u3, u4⟩ := o3
        have hx : xs = (l.flatMap enc).map valP := by rw [r1, ← hl, List.flatMap_def]
        refine ⟨arr', xs, o1, e5, fun y hy => r3 _ (by rw [← hl]; exact List.mem_map.2 ⟨y, hy, rfl⟩), by rw [hx]; exact denPs_mk (fun p hp => r2 p (by rw [← hl, ← List.flatMap_def]; exact hp)), by simpa using u1, by rw [hlen]; exact u2, by rw [hlen]; simpa using u3, by simpa using u4⟩
      · rw [e] at hx
        simp only [den, e1, capOf] at hx
        cases hx
        simp [den, denS, Ren.set_self, hdrP, hlen, q6]
noncomputable def bornX (t Ty sz : Nat) (α : Type) (enc : α → List PL) (S : SL) (M : T) (nx : Nat) (K : SL → T → Nat → Bool) : Bool := bornV (getS t S) Ty sz α enc M nx fun v M nx => K (.cons t v S) M nx
theorem bornX_ok {N : Nat} {S : SL} {a : Act} (s : SR E ρ N S a) (h : Sim E ρ G F M nx w) {t Ty sz : Nat} {α : Type} {enc : α → List PL} {K : SL → T → Nat → Bool} (hk : bornX t Ty sz α enc S M nx K = true) :
    ∃ S' M' nx' ρ', ρ.Le ρ' ∧ SR E ρ' N S' a ∧ Sim E ρ' G F M' nx' w ∧ K S' M' nx' = true := by
  obtain ⟨v', M', nx', ρ', hl, h1, h2, h3, h4⟩ := bornV_ok h hk
  refine ⟨_, M', nx', ρ', hl, ⟨s.size, s.defs, fun u => ?_⟩, h1, h2⟩
  by_cases q : t = u
  · subst q
    rw [getS_self]
    obtain ⟨x, q1, q2⟩ := (s.at_ t).resolve_left h4
    exact .inr ⟨x, h3 x q1, q2⟩
  · rw [getS_ne _ _ q]
    exact (s.mono hl).at_ u
theorem Sim.swap (h : Sim E ρ G F M nx w) {i q r : Nat} {g : Bool} {Ty sz : Nat} {els : List (List AV)} {el : List AV} {v v' : AV} (hi : M.get i = some (.blk g Ty sz els)) (hq : els[q]? = some el) (hr : el[r]? = some v)
    (hv : ∀ x, den E ρ v = some x → den E ρ v' = some x) {M' : T} (h1 : M'.get i = some (.blk g Ty sz (els.take q ++ [el.take r ++ [v'] ++ el.drop (r + 1)] ++ els.drop (q + 1)))) (h2 : ∀ m, m ≠ i → M'.get m = M.get m) : Sim E ρ G F M' nx w := by
  obtain ⟨c, hh, hob, hinj⟩ := h.ex
  have hle1 := (List.getElem?_eq_some_iff.1 hq).1
  have hle2 := (List.getElem?_eq_some_iff.1 hr).1
  have old : ∀ m o, M'.get m = some o → ∃ o2, M.get m = some o2 ∧ ∀ e, hasB e o = hasB e o2 := fun m o hm => by
    by_cases q1 : m = i
    · subst q1
      rw [h1] at hm; cases hm
      exact ⟨_, hi, fun e => rfl⟩
    · rw [h2 m q1] at hm
      exact ⟨o, hm, fun e => rfl⟩
  refine ⟨⟨c, hh, fun m o hm => ?_, fun m k e f o o' hm hk he hf hb1 hb2 hb => ?_⟩, h.mem, h.fresh⟩
  · by_cases q1 : m = i
    · subst q1
      rw [h1] at hm; cases hm
      obtain ⟨e, a1, ⟨b1, ob, b2, b3⟩ | ⟨b1, b2⟩⟩ := hob m _ hi
      · refine ⟨e, a1, .inl ⟨rfl, ob, b2, ?_⟩⟩
        obtain ⟨c1, c2, arr, xs, c3, c4, c5⟩ := b3
        have hel : ∀ l ∈ els.take q ++ [el.take r ++ [v'] ++ el.drop (r + 1)] ++ els.drop (q + 1), l.length = sz := by
          intro l hl
          simp only [List.mem_append, List.mem_singleton] at hl
          have := c1 el (List.mem_of_getElem? hq)
          rcases hl with (hl | rfl) | hl
          · exact c1 l (List.mem_of_mem_take hl)
          · simp only [List.length_append, List.length_take, List.length_drop, List.length_singleton]; omega
          · exact c1 l (List.mem_of_mem_drop hl)
        have hlen : (els.take q ++ [el.take r ++ [v'] ++ el.drop (r + 1)] ++ els.drop (q + 1)).length = els.length := by
          simp only [List.length_append, List.length_take, List.length_drop, List.length_singleton]; omega
        have e1 : els = els.take q ++ [el] ++ els.drop (q + 1) := by
          rw [List.append_assoc, List.singleton_append]
          have := List.take_append_drop q els
          rw [List.drop_eq_getElem_cons hle1] at this
          rw [← (List.getElem?_eq_some_iff.1 hq).2]; exact this.symm
        have e2 : el = el.take r ++ [v] ++ el.drop (r + 1) := by
          rw [List.append_assoc, List.singleton_append]
          have := List.take_append_drop r el
          rw [List.drop_eq_getElem_cons hle2] at this
          rw [← (List.getElem?_eq_some_iff.1 hr).2]; exact this.symm
        have hd : denL E ρ (els.take q ++ [el.take r ++ [v'] ++ el.drop (r + 1)] ++ els.drop (q + 1)).flatten = some xs := by
          rw [e1] at c4
          simp only [List.flatten_append, List.flatten_cons, List.flatten_nil, List.append_nil] at c4 ⊢
          obtain ⟨y1, z1, d1, d2, rfl⟩ := denL_split c4
          obtain ⟨y2, z2, d3, d4, rfl⟩ := denL_split d1
          rw [e2] at d4
          obtain ⟨y3, z3, d5, d6, rfl⟩ := denL_split d4
          obtain ⟨y4, z4, d7, d8, rfl⟩ := denL_split d5
          obtain ⟨x, _, d9, d10, rfl⟩ := denL_cons d8
          refine denL_app (denL_app d3 (denL_app (denL_app d7 ?_) d6)) d2
          exact denL_mk (hv x d9) d10
        refine ⟨hel, c2, arr, xs, c3, hd, ?_⟩
        rw [hlen]; exact c5
      · cases b1
    · rw [h2 m q1] at hm
      exact hob m o hm
  · obtain ⟨o2, f1, f2⟩ := old m o hm
    obtain ⟨o3, f3, f4⟩ := old k o' hk
    rw [f2] at hb1
    rw [f4] at hb2
    exact hinj m k e f o2 o3 f1 f3 he hf hb1 hb2 hb
noncomputable def cellX (i q r Ty sz : Nat) (α : Type) (enc : α → List PL) (M : T) (nx : Nat) (K : T → Nat → Bool) : Bool :=
  blkOf M i fun _ _ _ els => atO (nth els q) fun el => atO (nth el r) fun v => ifB (isSy v) (K M nx) (bornV v Ty sz α enc M nx fun v' M' nx' => blkOf M' i fun g T2 s2 els => atO (nth els q) fun el' => atO (nth el' r) fun v2 => must (prB (v2 = v))
    (upd el' r [v'] fun e2 => upd els q [e2] fun els2 => T.set fuelT M' i (some (.blk g T2 s2 els2)) fun M2 => K M2 nx'))
theorem cellX_ok (h : Sim E ρ G F M nx w) {i q r Ty sz : Nat} {α : Type} {enc : α → List PL} {K : T → Nat → Bool} (hk : cellX i q r Ty sz α enc M nx K = true) :
    ∃ M' nx' ρ', ρ.Le ρ' ∧ Sim E ρ' G F M' nx' w ∧ K M' nx' = true := by
  obtain ⟨g, T1, s1, els, h1, hk⟩ := blkOf_ok hk
  obtain ⟨el, h2, hk⟩ := atO_ok hk
  obtain ⟨v, h3, hk⟩ := atO_ok hk
  rcases ifB_ok hk with ⟨-, hk⟩ | ⟨-, hk⟩
  · exact ⟨M, nx, ρ, Ren.Le.refl _, h, hk⟩
  obtain ⟨v', M', nx', ρ', le, sm, hk, hv, hb⟩ := bornV_ok h hk
  obtain ⟨g, T2, s2, els2, h4, hk⟩ := blkOf_ok hk
  obtain ⟨el2, h5, hk⟩ := atO_ok hk
  obtain ⟨v2, h6, hk⟩ := atO_ok hk
  obtain ⟨hvv, hk2⟩ := mustP_ok hk
  obtain ⟨hk3, l1⟩ := upd_ok hk2
  obtain ⟨hk4, l2⟩ := upd_ok hk3
  obtain ⟨M2, hk5, g1, g2⟩ := T.set_ok _ _ _ _ _ hk4
  clear hk hk2 hk3 hk4
  subst hvv
  rw [nth_eq] at h2 h3 h5 h6
  refine ⟨M2, nx', ρ', le, sm.swap h4 h5 h6 (fun x hx => ?_) g1 g2, hk5⟩
  -- the cell's value is known already in the old numbers
  obtain ⟨e, arr, xs, e1, e2, e3, e4, e5, e6, e7, e8, e9⟩ := h.cellsAt h1
  have hmem : v2 ∈ els.flatten := List.mem_flatten.2 ⟨el, List.mem_of_getElem? h2, List.mem_of_getElem? h3⟩
  obtain ⟨k, hk2⟩ := List.mem_iff_getElem?.1 hmem
  obtain ⟨y, y1, _⟩ := denL_at e3 hk2
  have := den_mono le v2 y y1
  rw [this] at hx
  cases hx
  exact hv _ y1
noncomputable def frzcX (i q r : Nat) (M : T) (K : T → Bool) : Bool :=
  blkOf M i fun _ _ _ els => atO (nth els q) fun el => atO (nth el r) fun v => frz1 v M fun u M' => blkOf M' i fun g T2 s2 els => atO (nth els q) fun el' => atO (nth el' r) fun v2 => must (prB (v2 = v))
    (upd el' r [u] fun e2 => upd els q [e2] fun els2 => T.set fuelT M' i (some (.blk g T2 s2 els2)) K)
theorem frzcX_ok (h : Sim E ρ G F M nx w) {i q r : Nat} {K : T → Bool} (hk : frzcX i q r M K = true) :
    ∃ E' M', EEq ρ E E' ∧ E'.at_ = E.at_ ∧ Sim E' ρ G F M' nx w ∧ K M' = true := by
  obtain ⟨g, T1, s1, els, h1, hk⟩ := blkOf_ok hk
  obtain ⟨el, h2, hk⟩ := atO_ok hk
  obtain ⟨v, h3, hk⟩ := atO_ok hk
  rw [nth_eq] at h2 h3
  obtain ⟨e, arr, xs, e1, e2, e3, e4, e5, e6, e7, e8, e9⟩ := h.cellsAt h1
  have hmem : v ∈ els.flatten := List.mem_flatten.2 ⟨el, List.mem_of_getElem? h2, List.mem_of_getElem? h3⟩
  obtain ⟨k, hk2⟩ := List.mem_iff_getElem?.1 hmem
  obtain ⟨y, y1, _⟩ := denL_at e3 hk2
  obtain ⟨E1, M1, u, f1, f2, f3, f4, hk3⟩ := frz1_ok h y1 hk
  obtain ⟨g, T2, s2, els2, h4, hk4⟩ := blkOf_ok hk3
  obtain ⟨el2, h5, hk5⟩ := atO_ok hk4
  obtain ⟨v2, h6, hk6⟩ := atO_ok hk5
  obtain ⟨hvv, hk7⟩ := mustP_ok hk6
  obtain ⟨hk8, l1⟩ := upd_ok hk7
  obtain ⟨hk9, l2⟩ := upd_ok hk8
  obtain ⟨M2, hk10, g1, g2⟩ := T.set_ok _ _ _ _ _ hk9
  subst hvv
  rw [nth_eq] at h5 h6
  refine ⟨E1, M2, f1, f2, f3.swap h4 h5 h6 (fun x hx => ?_) g1 g2, hk10⟩
  rw [den_env f1 _ _ y1] at hx
  cases hx
  exact den_mono (ρ := fun _ => none) (fun _ _ q => by cases q) u y f4
noncomputable def frc0 (v : AV) (K : AV → Bool) : Bool := AV.casesOn v (K .bad) (fun k z => K (.int k z)) (fun b => K (.bool b)) (fun l => K (.str l)) (fun i o => K (.ptr i o)) (fun i o n c => K (.sl i o n c)) (fun i => K (.map i)) (K .nilP) (K .nilS) (K .nilM) (K .nilF) (K .nilI) (fun t v => K (.iface t v)) (fun f c => K (.fn f c)) (fun i => K (.yl i)) (fun l => K (.agg l)) (fun l => K (.tup l)) (fun i => K (.any i)) (fun s => K (.sy s))
theorem frc0_ok {v : AV} {K : AV → Bool} (h : frc0 v K = true) : K v = true := by
  cases v <;> exact h
noncomputable def upV (v : AV) : AV := AV.casesOn v .bad (fun k z => .sy (.int k z)) (fun b => .sy (.bool (b = true))) (fun l => .sy (.str (l.map UInt8.ofNat))) (fun i o => .ptr i o) (fun i o n c => .sl i o n c) (fun i => .map i) .nilP .nilS .nilM .nilF .nilI (fun t v => .iface t v) (fun f c => .fn f c) (fun i => .yl i) (fun l => .agg l) (fun l => .tup l) (fun i => .any i) (fun s => .sy s)
theorem upV_den {v : AV} {x : Value} (h : den E ρ v = some x) : den E ρ (upV v) = some x := by
  cases v <;> first | exact h | skip
  case bool b =>
    simp only [den] at h
    cases h
    show denS E ρ (.bool (b = true)) = _
    simp only [denS, prB_bool]
noncomputable def upX (t : Nat) (S : SL) (K : SL → Bool) : Bool := frc0 (upV (getS t S)) fun v => K (.cons t v S)
theorem upX_ok {N : Nat} {S : SL} {a : Act} (s : SR E ρ N S a) {t : Nat} {K : SL → Bool} (hk : upX t S K = true) : ∃ S', SR E ρ N S' a ∧ K S' = true := by
  have hk := frc0_ok hk
  refine ⟨_, ⟨s.size, s.defs, fun u => ?_⟩, hk⟩
  by_cases q : t = u
  · subst q
    rw [getS_self]
    rcases s.at_ t with q | ⟨x, q1, q2⟩
    · rw [q]; exact .inl rfl
    · exact .inr ⟨x, upV_den q1, q2⟩
  · rw [getS_ne _ _ q]
    exact s.at_ u
noncomputable def hasC (M : T) (i q r : Nat) : Bool := Option.casesOn (M.get i) false fun ob => AObj.casesOn ob (fun _ _ _ els => Option.casesOn (nth els q) false fun el => Option.casesOn (nth el r) false fun _ => true) (fun _ _ => false) (fun _ _ _ _ => false) false (fun _ _ _ _ _ => false) (fun _ _ _ _ _ _ _ => false)
noncomputable def upcX (i q r : Nat) (M : T) (K : T → Bool) : Bool := ifB (hasC M i q r) (blkOf M i fun g Ty sz els => atO (nth els q) fun el => atO (nth el r) fun v => frc0 (upV v) fun v' => upd el r [v'] fun e2 => upd els q [e2] fun els2 => T.set fuelT M i (some (.blk g Ty sz els2)) K) (K M)
theorem upcX_ok (h : Sim E ρ G F M nx w) {i q r : Nat} {K : T → Bool} (hk : upcX i q r M K = true) : ∃ M', Sim E ρ G F M' nx w ∧ K M' = true := by
  rcases ifB_ok hk with ⟨-, hk⟩ | ⟨-, hk⟩
  case inr => exact ⟨M, h, hk⟩
  obtain ⟨g, Ty, sz, els, h1, hk⟩ := blkOf_ok hk
  obtain ⟨el, h2, hk⟩ := atO_ok hk
  obtain ⟨v, h3, hk⟩ := atO_ok hk
  have hk := frc0_ok hk
  obtain ⟨hk, l1⟩ := upd_ok hk
  obtain ⟨hk, l2⟩ := upd_ok hk
  obtain ⟨M2, hk, g1, g2⟩ := T.set_ok _ _ _ _ _ hk
  rw [nth_eq] at h2 h3
  exact ⟨M2, h.swap h1 h2 h3 (fun x hx => upV_den hx) g1 g2, hk⟩
theorem Sim.swapM (h : Sim E ρ G F M nx w) {i : Nat} {es es' : List (AV × AV × Nat)} {cl : Nat} (hi : M.get i = some (.map es cl)) (hv : ∀ ms, denE E ρ es = some ms → denE E ρ es' = some ms) {M' : T} (h1 : M'.get i = some (.map es' cl)) (h2 : ∀ m, m ≠ i → M'.get m = M.get m) : Sim E ρ G F M' nx w := by
  obtain ⟨c, hh, hob, hinj⟩ := h.ex
  have old : ∀ m o, M'.get m = some o → ∃ o2, M.get m = some o2 ∧ ∀ e, hasB e o = hasB e o2 := fun m o hm => by
    by_cases q1 : m = i
    · subst q1
      rw [h1] at hm; cases hm
      exact ⟨_, hi, fun e => rfl⟩
    · rw [h2 m q1] at hm
      exact ⟨o, hm, fun e => rfl⟩
  refine ⟨⟨c, hh, fun m o hm => ?_, fun m k e f o o' hm hk he hf hb1 hb2 hb => ?_⟩, h.mem, h.fresh⟩
  · by_cases q1 : m = i
    · subst q1
      rw [h1] at hm; cases hm
      obtain ⟨e, a1, ⟨b1, ob, b2, b3⟩ | ⟨b1, b2⟩⟩ := hob m _ hi
      · obtain ⟨ms, c1, c2⟩ := b3
        exact ⟨e, a1, .inl ⟨rfl, ob, b2, ms, hv ms c1, c2⟩⟩
      · cases b1
    · rw [h2 m q1] at hm
      exact hob m o hm
  · obtain ⟨o2, f1, f2⟩ := old m o hm
    obtain ⟨o3, f3, f4⟩ := old k o' hk
    rw [f2] at hb1
    rw [f4] at hb2
    exact hinj m k e f o2 o3 f1 f3 he hf hb1 hb2 hb
noncomputable def upE (es : List (AV × AV × Nat)) (K : List (AV × AV × Nat) → Bool) : Bool := List.rec (motive := fun _ => (List (AV × AV × Nat) → Bool) → Bool) (fun K => K []) (fun e _ ih K => frc0 (upV e.2.1) fun v => ih fun l => K ((e.1, v, e.2.2) :: l)) es K
theorem upE_ok : ∀ {es : List (AV × AV × Nat)} {K : List (AV × AV × Nat) → Bool}, upE es K = true → ∃ es', K es' = true ∧ ∀ ms, denE E ρ es = some ms → denE E ρ es' = some ms
  | [], K, h => ⟨[], h, fun ms q => q⟩
  | (k, v, b) :: es, K, h => by
    have h1 := frc0_ok (show frc0 (upV v) (fun v => upE es fun l => K ((k, v, b) :: l)) = true from h)
    obtain ⟨es', h2, h3⟩ := upE_ok h1
    refine ⟨_, h2, fun ms q => ?_⟩
    obtain ⟨x, y, ms', q1, q2, q3, rfl⟩ := denE_cons q
    simp only [denE, q1, upV_den q2, h3 _ q3]
noncomputable def upmX (i : Nat) (M : T) (K : T → Bool) : Bool := mapOf M i fun es cl => upE es fun es' => T.set fuelT M i (some (.map es' cl)) K
theorem upmX_ok (h : Sim E ρ G F M nx w) {i : Nat} {K : T → Bool} (hk : upmX i M K = true) : ∃ M', Sim E ρ G F M' nx w ∧ K M' = true := by
  obtain ⟨es, cl, h1, hk⟩ := mapOf_ok hk
  obtain ⟨es', hk, h2⟩ := upE_ok (E := E) (ρ := ρ) hk
  obtain ⟨M2, hk, g1, g2⟩ := T.set_ok _ _ _ _ _ hk
  exact ⟨M2, h.swapM h1 h2 g1 g2, hk⟩
noncomputable def shrX (i : Nat) (M : T) (K : T → Bool) : Bool := blkOf M i fun g Ty sz _ => Bool.rec false (T.set fuelT M i (some (.blk true Ty sz [])) K) g
theorem shrX_ok (h : Sim E ρ G F M nx w) {i : Nat} {K : T → Bool} (hk : shrX i M K = true) : ∃ M', Sim E ρ G F M' nx w ∧ K M' = true := by
  obtain ⟨g, Ty, sz, els, h1, hk1⟩ := blkOf_ok hk
  cases g with
  | false => cases hk1
  | true =>
    obtain ⟨M2, hk2, g1, g2⟩ := T.set_ok _ _ _ _ _ hk1
    obtain ⟨e, ob, a1, a2, a3⟩ := h.obj h1
    obtain ⟨b1, b2, arr, xs, b3, b4, b5⟩ := a3
    obtain ⟨c1, c2, c3, c4⟩ := b5
    have hr : ORel E ρ e (.blk true Ty sz []) ob := ⟨by simp, b2, arr, [], b3, by simp [denL], c1, by simp, by simp, c4⟩
    exact ⟨M2, h.turn h1 a1 rfl rfl rfl (fun _ _ _ => rfl) a2 hr g1 g2, hk2⟩
theorem Sim.swapK (h : Sim E ρ G F M nx w) {i : Nat} {es : List (AV × AV × Nat)} {cl : Nat} {ak av : Bool} {α : Type} {l : List α} {kf vf : α → List PL} (hi : M.get i = some (.map es cl)) (hs : es.map (fun e => (e.1, e.2.1)) = l.map (fun x => (keyA ak (kf x), keyA av (vf x)))) {M' : T} (h1 : M'.get i = some (.kmap true ak av α l kf vf)) (h2 : ∀ m, m ≠ i → M'.get m = M.get m) : Sim E ρ G F M' nx w := by
  obtain ⟨c, hh, hob, hinj⟩ := h.ex
  have old : ∀ m o, M'.get m = some o → ∃ o2, M.get m = some o2 ∧ ∀ e, hasB e o = hasB e o2 := fun m o hm => by
    by_cases q1 : m = i
    · subst q1
      rw [h1] at hm; cases hm
      exact ⟨_, hi, fun e => rfl⟩
    · rw [h2 m q1] at hm
      exact ⟨o, hm, fun e => rfl⟩
  refine ⟨⟨c, hh, fun m o hm => ?_, fun m k e f o o' hm hk he hf hb1 hb2 hb => ?_⟩, h.mem, h.fresh⟩
  · by_cases q1 : m = i
    · subst q1
      rw [h1] at hm; cases hm
      obtain ⟨e, a1, ⟨b1, ob, b2, b3⟩ | ⟨b1, b2⟩⟩ := hob m _ hi
      · obtain ⟨ms, c1, c2⟩ := b3
        exact ⟨e, a1, .inl ⟨rfl, ob, b2, es, cl, ms, hs, c1, c2⟩⟩
      · cases b1
    · rw [h2 m q1] at hm
      exact hob m o hm
  · obtain ⟨o2, f1, f2⟩ := old m o hm
    obtain ⟨o3, f3, f4⟩ := old k o' hk
    rw [f2] at hb1
    rw [f4] at hb2
    exact hinj m k e f o2 o3 f1 f3 he hf hb1 hb2 hb
noncomputable def kbX (i : Nat) (ak av : Bool) (α : Type) (kf vf : α → List PL) (M : T) (K : T → Bool) : Bool := ifB (isK M i) (K M) (mapOf M i fun es _ => exB fun l : List α => must (prB (es.map (fun e => (e.1, e.2.1)) = l.map (fun x => (keyA ak (kf x), keyA av (vf x))))) (T.set fuelT M i (some (.kmap true ak av α l kf vf)) K))
theorem kbX_ok (h : Sim E ρ G F M nx w) {i : Nat} {ak av : Bool} {α : Type} {kf vf : α → List PL} {K : T → Bool} (hk : kbX i ak av α kf vf M K = true) : ∃ M', Sim E ρ G F M' nx w ∧ K M' = true := by
  rcases ifB_ok hk with ⟨_, hk⟩ | ⟨_, hk⟩
  · exact ⟨M, h, hk⟩
  obtain ⟨es, cl, h1, hk⟩ := mapOf_ok hk
  obtain ⟨l, hk⟩ := exB_ok hk
  obtain ⟨hs, hk⟩ := mustP_ok hk
  obtain ⟨M2, hk, g1, g2⟩ := T.set_ok _ _ _ _ _ hk
  exact ⟨M2, h.swapK h1 hs g1 g2, hk⟩
theorem Sim.reobjE (h : Sim E ρ G F M nx w) {i : Nat} {o o' : AObj} {e0 : REnt} (hi : M.get i = some o) (he0 : ρ i = some e0) (hB : hasB e0 o = true) (hB' : hasB e0 o' = true) (hr : ∀ ob, ORel E ρ e0 o ob → ORel E ρ e0 o' ob) {M' : T} (h1 : M'.get i = some o') (h2 : ∀ m, m ≠ i → M'.get m = M.get m) : Sim E ρ G F M' nx w := by
  obtain ⟨c, hh, hob, hinj⟩ := h.ex
  have old : ∀ m o2 e, M'.get m = some o2 → ρ m = some e → ∃ o3, M.get m = some o3 ∧ hasB e o2 = hasB e o3 := fun m o2 e hm he => by
    by_cases q1 : m = i
    · subst q1
      rw [h1] at hm; cases hm
      rw [he0] at he; cases he
      exact ⟨_, hi, by rw [hB, hB']⟩
    · rw [h2 m q1] at hm
      exact ⟨o2, hm, rfl⟩
  refine ⟨⟨c, hh, fun m o2 hm => ?_, fun m k e f o2 o3 hm hk he hf hb1 hb2 hb => ?_⟩, h.mem, h.fresh⟩
  · by_cases q1 : m = i
    · subst q1
      rw [h1] at hm; cases hm
      obtain ⟨e, a1, ⟨b1, ob, b2, b3⟩ | ⟨b1, b2⟩⟩ := hob m _ hi
      · rw [he0] at a1; cases a1
        exact ⟨_, he0, .inl ⟨hB', ob, b2, hr ob b3⟩⟩
      · rw [he0] at a1; cases a1
        rw [hB] at b1; cases b1
    · rw [h2 m q1] at hm
      exact hob m o2 hm
  · obtain ⟨o4, f1, f2⟩ := old m o2 e hm he
    obtain ⟨o5, f3, f4⟩ := old k o3 f hk hf
    rw [f2] at hb1
    rw [f4] at hb2
    exact hinj m k e f o4 o5 f1 f3 he hf hb1 hb2 hb
theorem Sim.nilObj (h : Sim E ρ G F M nx w) {M' : T} {o : AObj} (hB : hasB ⟨0, 0⟩ o = false) (hN : NilO o) (h1 : M'.get nx = some o) (h2 : ∀ m, m ≠ nx → M'.get m = M.get m) : Sim E (ρ.set nx ⟨0, 0⟩) G F M' (nx + 1) w := by
  have h0 := h.fresh nx (Nat.le_refl _)
  have hle := Ren.le_set (ρ := ρ) ⟨0, 0⟩ h0
  obtain ⟨c, hh, hob, hinj⟩ := h.ex
  refine ⟨⟨c, hh, fun j o hj => ?_, fun j k e f o o' hj hk he hf hb1 hb2 hb => ?_⟩, h.mem, fun j hj => ?_⟩
  · by_cases q : j = nx
    · subst q
      rw [h1] at hj; cases hj
      exact ⟨_, Ren.set_self _ _ _, .inr ⟨hB, hN⟩⟩
    · rw [h2 j q] at hj
      obtain ⟨e, a1, ⟨q1, ob, q2, q3⟩ | q1⟩ := hob j o hj
      · exact ⟨e, hle _ _ a1, .inl ⟨q1, ob, q2, q3.mono hle⟩⟩
      · exact ⟨e, hle _ _ a1, .inr q1⟩
  · have nb : ∀ m e o, M'.get m = some o → ρ.set nx ⟨0, 0⟩ m = some e → hasB e o = true → m ≠ nx := fun m e o q1 q2 q3 q4 => by
      subst q4
      rw [h1] at q1; cases q1
      rw [Ren.set_self] at q2; cases q2
      rw [hB] at q3; cases q3
    have nj := nb j e o hj he hb1
    have nk := nb k f o' hk hf hb2
    rw [h2 j nj] at hj
    rw [h2 k nk] at hk
    rw [Ren.set_ne _ nj] at he
    rw [Ren.set_ne _ nk] at hf
    exact hinj j k e f o o' hj hk he hf hb1 hb2 hb
  · rw [Ren.set_ne _ (by omega)]
    exact h.fresh j (by omega)
noncomputable def kforkX (i q r : Nat) (M : T) (K : T → Bool) : Bool := blkOf M i fun g Ty sz els => atO (nth els q) fun el => atO (nth el r) fun v => asKmp v (fun j => kmapOf M j fun sure ak av α l kf vf => ifB sure false
    (must (ifB (prB (l = [])) (upd el r [.nilM] fun e2 => upd els q [e2] fun els2 => T.set fuelT M i (some (.blk g Ty sz els2)) K) true)
      (T.set fuelT M j (some (.kmap true ak av α l kf vf)) fun M1 => blkOf M1 i fun g Ty sz els => atO (nth els q) fun el => atO (nth el r) fun v2 => must (prB (v2 = v)) (upd el r [.map j] fun e2 => upd els q [e2] fun els2 => T.set fuelT M1 i (some (.blk g Ty sz els2)) K)))) (K M)
theorem kforkX_ok (h : Sim E ρ G F M nx w) {i q r : Nat} {K : T → Bool} (hk : kforkX i q r M K = true) : ∃ M', Sim E ρ G F M' nx w ∧ K M' = true := by
  obtain ⟨g, Ty, sz, els, h1, hk⟩ := blkOf_ok hk
  obtain ⟨el, h2, hk⟩ := atO_ok hk
  obtain ⟨v, h3, hk⟩ := atO_ok hk
  rw [nth_eq] at h2 h3
  rcases asKmp_ok hk with ⟨j, rfl, hk⟩ | hk
  case inr => exact ⟨M, h, hk⟩
  obtain ⟨sure, ak, av, α, l, kf, vf, hj, hk⟩ := kmapOf_ok hk
  rcases ifB_ok hk with ⟨_, hk⟩ | ⟨hs, hk⟩
  · cases hk
  subst hs
  obtain ⟨k1, k2⟩ := must_ok hk
  obtain ⟨e, h4, q5⟩ := h.objP hj
  rcases q5 with ⟨b1, ob, b2, b3⟩ | ⟨b1, b2⟩
  · have b1' : (false || !Nat.beq e.cap 0) = true := b1
    have b4 : Nat.beq e.cap 0 = false := by simpa using b1'
    obtain ⟨M1, k3, s1, s2⟩ := T.set_ok _ _ _ _ _ k2
    obtain ⟨g, Ty, sz, els, h1, hk⟩ := blkOf_ok k3
    obtain ⟨el, h2, hk⟩ := atO_ok hk
    obtain ⟨v2, h3, hk⟩ := atO_ok hk
    rw [nth_eq] at h2 h3
    obtain ⟨hvv, hk3⟩ := mustP_ok hk
    subst hvv
    obtain ⟨hk4, _⟩ := upd_ok hk3
    obtain ⟨hk5, _⟩ := upd_ok hk4
    obtain ⟨M2, hk6, g1, g2⟩ := T.set_ok _ _ _ _ _ hk5
    have hS : Sim E ρ G F M1 nx w := h.reobjE (o' := .kmap true ak av α l kf vf) hj h4 b1 rfl (fun ob q => q) s1 s2
    refine ⟨M2, hS.swap h1 h2 h3 (fun x hx => ?_) g1 g2, hk6⟩
    simp only [den, denS, h4, b4, cond_false] at hx ⊢
    exact hx
  · have b1' : (false || !Nat.beq e.cap 0) = false := b1
    have b4 : Nat.beq e.cap 0 = true := by simpa using b1'
    rw [prB_true.2 b2.2] at k1
    obtain ⟨hk, _⟩ := upd_ok (show (upd el r [.nilM] fun e2 => upd els q [e2] fun els2 => T.set fuelT M i (some (.blk g Ty sz els2)) K) = true from k1)
    obtain ⟨hk, _⟩ := upd_ok hk
    obtain ⟨M2, hk, g1, g2⟩ := T.set_ok _ _ _ _ _ hk
    refine ⟨M2, h.swap h1 h2 h3 (fun x hx => ?_) g1 g2, hk⟩
    simp only [den, denS, h4, b4, cond_true] at hx ⊢
    exact hx
noncomputable def joinV (v : AV) (ak av : Bool) (α : Type) (kf vf : α → List PL) (M : T) (nx : Nat) (K : AV → T → Nat → Bool) : Bool := asMap v (T.set fuelT M nx (some (.kmap false ak av α [] kf vf)) fun M' => fN (Nat.succ nx) fun q => K (.sy (.kmp nx)) M' q)
  (fun j => kbX j ak av α kf vf M fun M1 => kmapOf M1 j fun sure ak av α l kf vf => must sure (T.set fuelT M1 j none fun M2 => T.set fuelT M2 nx (some (.kmap false ak av α l kf vf)) fun M' => fN (Nat.succ nx) fun q => K (.sy (.kmp nx)) M' q))
theorem joinV_ok (h : Sim E ρ G F M nx w) {v : AV} {ak av : Bool} {α : Type} {kf vf : α → List PL} {K : AV → T → Nat → Bool} (hk : joinV v ak av α kf vf M nx K = true) :
    ∃ v' M' nx' ρ', ρ.Le ρ' ∧ Sim E ρ' G F M' nx' w ∧ K v' M' nx' = true ∧ (∀ x, den E ρ v = some x → den E ρ' v' = some x) := by
  rcases asMap_ok hk with ⟨rfl, g⟩ | ⟨j, rfl, g⟩
  · obtain ⟨M', k1, s1, s2⟩ := T.set_ok _ _ _ _ _ g
    rw [fN_eq] at k1
    refine ⟨_, M', nx + 1, _, Ren.le_set _ (h.fresh nx (Nat.le_refl _)), h.nilObj (o := .kmap false ak av α [] kf vf) rfl ⟨rfl, rfl⟩ s1 s2, k1, fun x hx => ?_⟩
    cases hx
    simp [den, denS, Ren.set_self]
  · obtain ⟨M1, hS, k1⟩ := kbX_ok h g
    have k1 := kmapOf_ok k1
    obtain ⟨sure, ak2, av2, α2, l2, kf2, vf2, hj, k2⟩ := k1
    obtain ⟨hs, k3⟩ := must_ok k2
    subst hs
    obtain ⟨e, ob, h4, _, _⟩ := hS.obj hj
    obtain ⟨M2, k4, s1, s2⟩ := T.set_ok _ _ _ _ _ k3
    obtain ⟨M3, k5, s3, s4⟩ := T.set_ok _ _ _ _ _ k4
    rw [fN_eq] at k5
    have h0 := hS.fresh nx (Nat.le_refl _)
    have hne : j ≠ nx := fun q => by rw [q, h0] at h4; cases h4
    refine ⟨_, M3, nx + 1, _, Ren.le_set (ρ := ρ) ⟨e.b, 1⟩ h0, hS.rekey (o' := .kmap false ak2 av2 α2 l2 kf2 vf2) (e' := ⟨e.b, 1⟩) hj h4 rfl rfl rfl (fun ob q => q) s3 (fun m a1 a2 => by rw [s4 m a1, s2 m a2]) (by rw [s4 j hne, s1]), k5, fun x hx => ?_⟩
    simp only [den, h4] at hx
    cases hx
    simp only [den, denS, Ren.set_self]
    rfl
noncomputable def kjoinX (i q r : Nat) (ak av : Bool) (α : Type) (kf vf : α → List PL) (M : T) (nx : Nat) (K : T → Nat → Bool) : Bool :=
  blkOf M i fun _ _ _ els => atO (nth els q) fun el => atO (nth el r) fun v => ifB (isSy v) (K M nx) (joinV v ak av α kf vf M nx fun v' M' nx' => blkOf M' i fun g T2 s2 els => atO (nth els q) fun el' => atO (nth el' r) fun v2 => must (prB (v2 = v))
    (upd el' r [v'] fun e2 => upd els q [e2] fun els2 => T.set fuelT M' i (some (.blk g T2 s2 els2)) fun M2 => K M2 nx'))
theorem kjoinX_ok (h : Sim E ρ G F M nx w) {i q r : Nat} {ak av : Bool} {α : Type} {kf vf : α → List PL} {K : T → Nat → Bool} (hk : kjoinX i q r ak av α kf vf M nx K = true) :
    ∃ M' nx' ρ', ρ.Le ρ' ∧ Sim E ρ' G F M' nx' w ∧ K M' nx' = true := by
  obtain ⟨g, T1, s1, els, h1, hk⟩ := blkOf_ok hk
  obtain ⟨el, h2, hk⟩ := atO_ok hk
  obtain ⟨v, h3, hk⟩ := atO_ok hk
  rcases ifB_ok hk with ⟨-, hk⟩ | ⟨-, hk⟩
  · exact ⟨M, nx, ρ, Ren.Le.refl _, h, hk⟩
  obtain ⟨v', M', nx', ρ', le, sm, hk, hv⟩ := joinV_ok h hk
  obtain ⟨g, T2, s2, els2, h4, hk⟩ := blkOf_ok hk
  obtain ⟨el2, h5, hk⟩ := atO_ok hk
  obtain ⟨v2, h6, hk⟩ := atO_ok hk
  obtain ⟨hvv, hk2⟩ := mustP_ok hk
  obtain ⟨hk3, l1⟩ := upd_ok hk2
  obtain ⟨hk4, l2⟩ := upd_ok hk3
  obtain ⟨M2, hk5, g1, g2⟩ := T.set_ok _ _ _ _ _ hk4
  clear hk hk2 hk3 hk4
  subst hvv
  rw [nth_eq] at h2 h3 h5 h6
  refine ⟨M2, nx', ρ', le, sm.swap h4 h5 h6 (fun x hx => ?_) g1 g2, hk5⟩
  obtain ⟨e, arr, xs, e1, e2, e3, e4, e5, e6, e7, e8, e9⟩ := h.cellsAt h1
  have hmem : v2 ∈ els.flatten := List.mem_flatten.2 ⟨el, List.mem_of_getElem? h2, List.mem_of_getElem? h3⟩
  obtain ⟨k, hk2⟩ := List.mem_iff_getElem?.1 hmem
  obtain ⟨y, y1, _⟩ := denL_at e3 hk2
  have := den_mono le v2 y y1
  rw [this] at hx
  cases hx
  exact hv _ y1
noncomputable def fixX (t n : Nat) (S : SL) (K : SL → Bool) : Bool := AV.casesOn (getS t S) false (fun _ _ => K S) (fun _ => false) (fun _ => false) (fun _ _ => false) (fun _ _ _ _ => false) (fun _ => false) false false false false false (fun _ _ => false) (fun _ _ => false) (fun _ => false) (fun _ => false) (fun _ => false) (fun _ => false)
  (fun s => SY.casesOn s (fun k z => fork n z (fun j => fN j fun j => K (.cons t (.int k (Int.ofNat j)) S)) 0) (fun _ => false) (fun _ => false) (fun _ _ _ _ _ => false) (fun _ _ _ => false) (fun _ _ => false) (fun _ _ _ _ => false) (fun _ _ _ _ => false) (fun _ _ _ => false) (fun _ => false))
theorem fixX_ok {N : Nat} {S : SL} {a : Act} (s : SR E ρ N S a) {t n : Nat} {K : SL → Bool} (hk : fixX t n S K = true) : ∃ S', SR E ρ N S' a ∧ K S' = true := by
  unfold fixX at hk
  generalize e : getS t S = v at hk
  cases v <;> first | (cases hk; done) | exact ⟨S, s, hk⟩ | skip
  case sy s' =>
    cases s' <;> first | (cases hk; done) | skip
    case int k z =>
      obtain ⟨j, h1, _, h2⟩ := fork_ok (show fork n z (fun j => fN j fun j => K (.cons t (.int k (Int.ofNat j)) S)) 0 = true from hk)
      rw [fN_eq] at h2
      refine ⟨_, ⟨s.size, s.defs, fun u => ?_⟩, h2⟩
      by_cases q : t = u
      · subst q
        rw [getS_self]
        rcases s.at_ t with q | ⟨x, q1, q2⟩
        · rw [e] at q; cases q
        · refine .inr ⟨x, ?_, q2⟩
          rw [e] at q1
          rw [← q1, h1]
          rfl
      · rw [getS_ne _ _ q]
        exact s.at_ u
noncomputable def fixcX (i q r n : Nat) (M : T) (K : T → Bool) : Bool := blkOf M i fun g Ty sz els => atO (nth els q) fun el => atO (nth el r) fun v => AV.casesOn v false (fun _ _ => K M) (fun _ => false) (fun _ => false) (fun _ _ => false) (fun _ _ _ _ => false) (fun _ => false) false false false false false (fun _ _ => false) (fun _ _ => false) (fun _ => false) (fun _ => false) (fun _ => false) (fun _ => false)
  (fun s => SY.casesOn s (fun k z => fork n z (fun j => fN j fun j => upd el r [.int k (Int.ofNat j)] fun e2 => upd els q [e2] fun els2 => T.set fuelT M i (some (.blk g Ty sz els2)) K) 0) (fun _ => false) (fun _ => false) (fun _ _ _ _ _ => false) (fun _ _ _ => false) (fun _ _ => false) (fun _ _ _ _ => false) (fun _ _ _ _ => false) (fun _ _ _ => false) (fun _ => false))
theorem fixcX_ok (h : Sim E ρ G F M nx w) {i q r n : Nat} {K : T → Bool} (hk : fixcX i q r n M K = true) : ∃ M', Sim E ρ G F M' nx w ∧ K M' = true := by
  obtain ⟨g, Ty, sz, els, h1, hk1⟩ := blkOf_ok hk
  obtain ⟨el, h2, hk2⟩ := atO_ok hk1
  obtain ⟨v, h3, hk3⟩ := atO_ok hk2
  clear hk hk1 hk2
  rw [nth_eq] at h2 h3
  cases v <;> first | (cases hk3; done) | exact ⟨M, h, hk3⟩ | skip
  case sy s' =>
    cases s' <;> first | (cases hk3; done) | skip
    case int k z =>
      obtain ⟨j, e1, _, e2⟩ := fork_ok (show fork n z (fun j => fN j fun j => upd el r [.int k (Int.ofNat j)] fun e2 => upd els q [e2] fun els2 => T.set fuelT M i (some (.blk g Ty sz els2)) K) 0 = true from hk3)
      rw [fN_eq] at e2
      obtain ⟨e3, l1⟩ := upd_ok e2
      obtain ⟨e4, l2⟩ := upd_ok e3
      obtain ⟨M2, e5, g1, g2⟩ := T.set_ok _ _ _ _ _ e4
      refine ⟨M2, h.swap h1 h2 h3 (v' := .int k (Int.ofNat j)) (fun x hx => ?_) g1 g2, e5⟩
      rw [← hx, e1]
      rfl
noncomputable def forkO (n : Nat) (z : Int) (K : Nat → Bool) (D : Bool) : Nat → Bool := Nat.rec (fun _ => D) (fun _ ih k => ifB (prB (z = Int.ofNat k)) (K k) (ih (Nat.succ k))) n
theorem forkO_ok {z : Int} {K : Nat → Bool} {D : Bool} : ∀ {n k : Nat}, forkO n z K D k = true → (∃ j : Nat, z = (j : Int) ∧ K j = true) ∨ D = true
  | 0, k, h => .inr h
  | n + 1, k, h => by
    have h' : ifB (prB (z = Int.ofNat k)) (K k) (forkO n z K D (Nat.succ k)) = true := h
    rcases ifP_ok h' with ⟨q, g⟩ | ⟨_, g⟩
    · exact .inl ⟨k, q, g⟩
    · exact forkO_ok g
noncomputable def fixoX (i q r n : Nat) (M : T) (K : T → Bool) : Bool := blkOf M i fun g Ty sz els => atO (nth els q) fun el => atO (nth el r) fun v => AV.casesOn v false (fun _ _ => K M) (fun _ => false) (fun _ => false) (fun _ _ => false) (fun _ _ _ _ => false) (fun _ => false) false false false false false (fun _ _ => false) (fun _ _ => false) (fun _ => false) (fun _ => false) (fun _ => false) (fun _ => false)
  (fun s => SY.casesOn s (fun k z => forkO n z (fun j => fN j fun j => upd el r [.int k (Int.ofNat j)] fun e2 => upd els q [e2] fun els2 => T.set fuelT M i (some (.blk g Ty sz els2)) K) (K M) 0) (fun _ => false) (fun _ => false) (fun _ _ _ _ _ => false) (fun _ _ _ => false) (fun _ _ => false) (fun _ _ _ _ => false) (fun _ _ _ _ => false) (fun _ _ _ => false) (fun _ => false))
theorem fixoX_ok (h : Sim E ρ G F M nx w) {i q r n : Nat} {K : T → Bool} (hk : fixoX i q r n M K = true) : ∃ M', Sim E ρ G F M' nx w ∧ K M' = true := by
  obtain ⟨g, Ty, sz, els, h1, hk1⟩ := blkOf_ok hk
  obtain ⟨el, h2, hk2⟩ := atO_ok hk1
  obtain ⟨v, h3, hk3⟩ := atO_ok hk2
  clear hk hk1 hk2
  rw [nth_eq] at h2 h3
  cases v <;> first | (cases hk3; done) | exact ⟨M, h, hk3⟩ | skip
  case sy s' =>
    cases s' <;> first | (cases hk3; done) | skip
    case int k z =>
      rcases forkO_ok (show forkO n z (fun j => fN j fun j => upd el r [.int k (Int.ofNat j)] fun e2 => upd els q [e2] fun els2 => T.set fuelT M i (some (.blk g Ty sz els2)) K) (K M) 0 = true from hk3) with ⟨j, e1, e2⟩ | e2
      · rw [fN_eq] at e2
        obtain ⟨e3, l1⟩ := upd_ok e2
        obtain ⟨e4, l2⟩ := upd_ok e3
        obtain ⟨M2, e5, g1, g2⟩ := T.set_ok _ _ _ _ _ e4
        refine ⟨M2, h.swap h1 h2 h3 (v' := .int k (Int.ofNat j)) (fun x hx => ?_) g1 g2, e5⟩
        rw [← hx, e1]
        rfl
      · exact ⟨M, h, e2⟩
end
inductive Adm : Type 1 | can (k : Nat) (live : List Nat) | born (t Ty sz : Nat) (α : Type) (enc : α → List PL) | cell (i q r Ty sz : Nat) (α : Type) (enc : α → List PL) | up (t : Nat) | upc (i q r : Nat) | upm (i : Nat) | fix (t n : Nat) | frz (t : Nat) | fixc (i q r n : Nat) | frzc (i q r : Nat) | fixo (i q r n : Nat) | kb (i : Nat) (ak av : Bool) (α : Type) (kf vf : α → List PL) | die | kfork (i q r : Nat) | bors (t Ty sz : Nat) (α : Type) (enc : α → List PL) | kjoin (i q r : Nat) (ak av : Bool) (α : Type) (kf vf : α → List PL) | shr (i : Nat)
noncomputable def admsX (l : List Adm) : SL → T → Nat → (SL → T → Nat → Bool) → Bool := List.rec (fun S M nx K => K S M nx) (fun a _ ih S M nx K => Adm.casesOn a (fun k live => canX k live S M fun S M nx => ih S M nx K) (fun t Ty sz α enc => bornX t Ty sz α enc S M nx fun S M nx => ih S M nx K) (fun i q r Ty sz α enc => cellX i q r Ty sz α enc M nx fun M nx => ih S M nx K) (fun t => upX t S fun S => ih S M nx K) (fun i q r => upcX i q r M fun M => ih S M nx K) (fun i => upmX i M fun M => ih S M nx K) (fun t n => fixX t n S fun S => ih S M nx K) (fun t => frz1 (getS t S) M fun v M => ih (.cons t v S) M nx K) (fun i q r n => fixcX i q r n M fun M => ih S M nx K) (fun i q r => frzcX i q r M fun M => ih S M nx K) (fun i q r n => fixoX i q r n M fun M => ih S M nx K) (fun i ak av α kf vf => kbX i ak av α kf vf M fun M => ih S M nx K) false (fun i q r => kforkX i q r M fun M => ih S M nx K) (fun t Ty sz α enc => ifB (isSy (getS t S)) (ih S M nx K) (bornX t Ty sz α enc S M nx fun S M nx => ih S M nx K)) (fun i q r ak av α kf vf => kjoinX i q r ak av α kf vf M nx fun M nx => ih S M nx K) (fun i => shrX i M fun M => ih S M nx K)) l
noncomputable def admsAt (l : List (Nat × List Adm)) (e : Nat) : List Adm := List.rec [] (fun p _ ih => Bool.rec ih p.2 (Nat.beq p.1 e)) l
noncomputable def slit0 (S : SL) : Nat := AV.casesOn (getS 0 S) 0 (fun _ z => Int.casesOn z (fun n => Nat.succ n) (fun _ => 0)) (fun _ => 0) (fun _ => 0) (fun _ _ => 0) (fun _ _ _ _ => 0) (fun _ => 0) 0 0 0 0 0 (fun _ _ => 0) (fun _ _ => 0) (fun _ => 0) (fun _ => 0) (fun _ => 0) (fun _ => 0) (fun _ => 0)
noncomputable def hasA (l : List (Nat × List Adm)) (e : Nat) : Bool := List.rec false (fun p _ ih => Bool.rec ih true (Nat.beq p.1 e)) l
noncomputable def admsSel (l : List (Nat × List Adm)) (e : Nat) (S : SL) : List Adm := Bool.rec (admsAt l e) (admsAt l (Nat.add e (Nat.mul 1000 (slit0 S)))) (hasA l (Nat.add e (Nat.mul 1000 (slit0 S))))
inductive XC : Type 1 | bad | skip | ret | exit (k : Nat) | reg (draw : Bool) (n : Nat) (tr : XTr) | seq (x y : XC) | cond (p : XP) (x y : XC) | block (k : Nat) (c : XC) | loop (live : List Nat) (c : XC) | inv (j : Nat) (c : XC) | aft (x : XC) (l : List (Nat × List Adm)) | pre (l : List Adm) (x : XC) | spc (j : Nat) (x : XC)
abbrev KC := Nat → SL → T → Nat → Bool
noncomputable def frc (v : AV) (K0 : Bool) (K : AV → Bool) : Bool := AV.casesOn v K0 (fun k z => K (.int k z)) (fun b => K (.bool b)) (fun l => K (.str l)) (fun i o => K (.ptr i o)) (fun i o n c => K (.sl i o n c)) (fun i => K (.map i)) (K .nilP) (K .nilS) (K .nilM) (K .nilF) (K .nilI) (fun t v => K (.iface t v)) (fun f c => K (.fn f c)) (fun i => K (.yl i)) (fun l => K (.agg l)) (fun l => K (.tup l)) (fun i => K (.any i)) (fun s => K (.sy s))
theorem frc_ok {v : AV} {K0 : Bool} {K : AV → Bool} (h : frc v K0 K = true) : (v = .bad ∧ K0 = true) ∨ K v = true := by
  cases v <;> first | exact .inr h | exact .inl ⟨rfl, h⟩
noncomputable def packX (S : SL) (live : List Nat) : SL → (SL → Bool) → Bool := List.rec (fun acc K => K acc) (fun t _ ih acc K => frc (getS t S) (ih acc K) fun v => ih (.cons t v acc) K) live
noncomputable def condX (p : XP) (S : SL) (K : Bool → SL → Bool) : Bool := XP.casesOn p (fun n => refB n S K) (fun v => asB v fun b => K b S) (fun _ => false)
abbrev LpF := Nat → SL → T → Nat → KC → Bool
noncomputable def codeX (cf : CallF) (lp : LpF) (lf : Nat) (c : XC) : SL → T → Nat → KC → Bool := XC.rec
  (fun _ _ _ _ => false) (fun S M nx K => K 0 S M nx) (fun S M nx K => K 1 S M nx) (fun k S M nx K => K k S M nx)
  (fun _ _ tr S M nx K => treeX cf tr S M nx fun S M nx => K 0 S M nx)
  (fun _ _ ihx ihy S M nx K => ihx S M nx fun e S M nx => Nat.casesOn e (ihy S M nx K) fun e' => K (Nat.succ e') S M nx)
  (fun p _ _ ihx ihy S M nx K => condX p S fun b S => ifB b (ihx S M nx K) (ihy S M nx K))
  (fun k _ ih S M nx K => ih S M nx fun e S M nx => ifB (Nat.beq e k) (K 0 S M nx) (K e S M nx))
  (fun live _ ih S M nx K => Nat.rec (motive := fun _ => SL → T → Nat → Bool) (fun _ _ _ => false) (fun _ again S M nx => packX S live .nil fun S => ih S M nx fun e S M nx => Nat.casesOn e (again S M nx) fun e' => K (Nat.succ e') S M nx) lf S M nx)
  (fun j _ _ S M nx K => lp j S M nx K)
  (fun _ l ih S M nx K => ih S M nx fun e S M nx => admsX (admsSel l e S) S M nx (K e))
  (fun l _ ih S M nx K => admsX l S M nx fun S M nx => ih S M nx K)
  (fun j _ _ S M nx K => lp j S M nx K) c
def exOf : Nat → Exit
  | 0 => .normal | 1 => .ret | n + 2 => .exit n
def noA : List XSt → Bool
  | [] => true
  | .a .. :: _ => false
  | _ :: r => noA r
def chkC (P : Program) (N : Nat) : XC → Code → Bool
  | .bad, _ => true
  | .skip, .skip => true
  | .ret, .ret => true
  | .exit k, .exit i => Nat.beq k (i + 2)
  | .reg draw n tr, .region _ ops d => decide (draw = d) && chkTr P ops N tr && (match draw, tr with | true, _ => treeB ops n [] (toTr tr) | false, .leaf sts => noA sts && Nat.beq ops.size n && decide ((sts.map fun s => (kOfSt s).1) = List.range n) | _, _ => false)
  | .seq x y, .seq a b => chkC P N x a && chkC P N y b
  | .cond p x y, .cond c a b => opOk p c && chkC P N x a && chkC P N y b
  | .block k c, .block i a => Nat.beq k (i + 2) && chkC P N c a
  | .loop _ c, .loop a => chkC P N c a
  | .inv _ c, .loop a => chkC P N c a
  | .aft x _, c => chkC P N x c
  | .pre _ x, c => chkC P N x c
  | .spc _ x, c => chkC P N x c
  | _, _ => false
def plain : XC → Bool
  | .seq x y => plain x && plain y
  | .cond _ x y => plain x && plain y
  | .block _ c => plain c
  | .loop _ c => plain c
  | .inv .. | .aft .. | .pre .. | .spc .. => false
  | _ => true
def lpsOf : XC → List (Bool × Nat × XC)
  | .seq x y => lpsOf x ++ lpsOf y
  | .cond _ x y => lpsOf x ++ lpsOf y
  | .block _ c => lpsOf c
  | .loop _ c => lpsOf c
  | .inv j c => [(true, j, c)]
  | .aft x _ => lpsOf x
  | .pre _ x => lpsOf x
  | .spc j x => [(false, j, x)]
  | _ => []
section
variable {P : Program} {E : Env} {ρ : Ren} {G : GS} {F : List Chunk} {M : T} {nx : Nat} {w : World} {N : Nat} {S : SL} {a : Act} {ops : Array Oper} {o : Oper}
theorem condX_ok (s : SR E ρ N S a) {p : XP} {c : Operand} {K : Bool → SL → Bool} (ho : opOk p c = true) (h : condX p S K = true) : ∃ b S', a.eval c = .bool b ∧ SR E ρ N S' a ∧ K b S' = true := by
  cases p with
  | t n =>
    cases c <;> simp only [opOk] at ho <;> first | (cases ho; done) | skip
    have := Nat.eq_of_beq_eq_true ho
    subst this
    obtain ⟨b, S', h1, h2, h3⟩ := refB_ok s (show refB n S K = true from h)
    exact ⟨b, S', h1, h2, h3⟩
  | c v =>
    cases c <;> simp only [opOk] at ho <;> first | (cases ho; done) | skip
    have hd := isC_ok (E := E) (ρ := ρ) ho
    obtain ⟨b, rfl, h1⟩ := asB_ok (show asB v (fun b => K b S) = true from h)
    cases hd
    exact ⟨b, S, rfl, s, h1⟩
  | f n => cases h
theorem packX_ok (s : SR E ρ N S a) : ∀ {live : List Nat} {acc : SL} {K : SL → Bool}, SR E ρ N acc a → packX S live acc K = true → ∃ S', SR E ρ N S' a ∧ K S' = true
  | [], acc, K, sa, h => ⟨acc, sa, h⟩
  | t :: live, acc, K, sa, h => by
    have h' : frc (getS t S) (packX S live acc K) (fun v => packX S live (.cons t v acc) K) = true := h
    rcases frc_ok h' with ⟨_, h1⟩ | h1
    · exact packX_ok s sa h1
    · refine packX_ok s ⟨sa.size, sa.defs, fun u => ?_⟩ h1
      by_cases e : t = u
      · subst e
        rw [getS_self]
        exact s.at_ t
      · rw [getS_ne _ _ e]
        exact sa.at_ u
theorem SR.nil (h1 : a.tmps.size = N) (h2 : a.defers = []) : SR E ρ N .nil a := ⟨h1, h2, fun _ => .inl rfl⟩
theorem wpL_ops {Q : Exit → Act → World → Prop} : ∀ {sts : List XSt} {a : Act} {w : World}, noA sts = true → wpL P ops (fun a w => Q .normal a w) (sts.map kOfSt) a w → wpOps P ops Q (sts.map fun s => (kOfSt s).1) a w
  | [], _, _, _, h => h
  | .p i d g x :: r, a, w, hn, ⟨v, h1, h2⟩ => by
    rw [List.map_cons, wpOps_cons]
    exact op1_Q ((h1 w).to (wpL_ops (Q := Q) (by simpa [noA] using hn) h2))
  | .r i d g x :: r, a, w, hn, ⟨v, h1, h2⟩ => by
    rw [List.map_cons, wpOps_cons]
    exact op1_Q (h1.to (wpL_ops (Q := Q) (by simpa [noA] using hn) h2))
  | .e i d g x :: r, a, w, hn, h => by
    rw [List.map_cons, wpOps_cons]
    exact op1_Q (op1.mono h fun a w h => wpL_ops (Q := Q) (by simpa [noA] using hn) h)
  | .c i d g f xs :: r, a, w, hn, h => by
    rw [List.map_cons, wpOps_cons]
    exact op1_Q (op1.mono h fun a w h => wpL_ops (Q := Q) (by simpa [noA] using hn) h)
  | .k i d g t f xs :: r, a, w, hn, h => by
    rw [List.map_cons, wpOps_cons]
    exact op1_Q (op1.mono h fun a w h => wpL_ops (Q := Q) (by simpa [noA] using hn) h)
  | .a i d g x :: r, a, w, hn, h => by simp [noA] at hn
structure Rel (fl : Bool) (pk : Nat) (E : Env) (ρ : Ren) (E' : Env) (ρ' : Ren) : Prop where
  one : EOk E'
  mem : MLe E.M E'.M
  ext : fl = true → Ext E ρ E' ρ'
  pin : ∀ i e, i < pk → ρ i = some e → ρ' i = some e
theorem Ext.rel {fl : Bool} {pk : Nat} {E' : Env} {ρ' : Ren} (h : Ext E ρ E' ρ') : Rel fl pk E ρ E' ρ' := ⟨h.one, h.env.mem, fun _ => h, fun i e _ q => h.le i e q⟩
theorem Rel.trans {fl : Bool} {pk : Nat} {E1 E2 E3 : Env} {r1 r2 r3 : Ren} (h : Rel fl pk E1 r1 E2 r2) (k : Rel fl pk E2 r2 E3 r3) : Rel fl pk E1 r1 E3 r3 := ⟨k.one, MLe.trans h.mem k.mem, fun q => (h.ext q).trans (k.ext q), fun i e q1 q2 => k.pin i e q1 (h.pin i e q1 q2)⟩
theorem Rel.next {pk : Nat} {E1 E2 : Env} {r1 r2 r3 : Ren} (h : Rel false pk E1 r1 E2 r2) (k : ∀ i e, i < pk → r2 i = some e → r3 i = some e) : Rel false pk E1 r1 E2 r3 := ⟨h.one, h.mem, fun q => (by cases q), fun i e q1 q2 => k i e q1 (h.pin i e q1 q2)⟩
theorem Rel.prev {pk : Nat} {E1 E2 : Env} {r1 r2 r3 : Ren} (h : Rel false pk E1 r2 E2 r3) (k : ∀ i e, i < pk → r1 i = some e → r2 i = some e) : Rel false pk E1 r1 E2 r3 := ⟨h.one, h.mem, fun q => (by cases q), fun i e q1 q2 => h.pin i e q1 (k i e q1 q2)⟩
def keepA (pk : Nat) : List Adm → Bool
  | [] => true
  | .can k _ :: l => Nat.ble pk k && keepA pk l
  | .born .. :: l => keepA pk l
  | .cell .. :: l => keepA pk l
  | .up _ :: l => keepA pk l
  | .upc .. :: l => keepA pk l
  | .upm _ :: l => keepA pk l
  | .shr _ :: l => keepA pk l
  | .fix .. :: l => keepA pk l
  | .frz _ :: l => keepA pk l
  | .fixc .. :: l => keepA pk l
  | .frzc .. :: l => keepA pk l
  | .fixo .. :: l => keepA pk l
  | .kb .. :: l => keepA pk l
  | .die :: l => keepA pk l
  | .kfork .. :: l => keepA pk l
  | .bors .. :: l => keepA pk l
  | .kjoin .. :: l => keepA pk l
def keepL (pk : Nat) : List (Nat × List Adm) → Bool
  | [] => true
  | p :: l => keepA pk p.2 && keepL pk l
def keepB (pk : Nat) : XC → Bool
  | .seq x y => keepB pk x && keepB pk y
  | .cond _ x y => keepB pk x && keepB pk y
  | .block _ c => keepB pk c
  | .loop _ c => keepB pk c
  | .aft x l => keepB pk x && keepL pk l
  | .pre l x => keepA pk l && keepB pk x
  | _ => true
theorem keepL_at {pk : Nat} : ∀ {l : List (Nat × List Adm)} {e : Nat}, keepL pk l = true → keepA pk (admsAt l e) = true
  | [], e, _ => rfl
  | p :: l, e, h => by
    obtain ⟨h1, h2⟩ := and2 h
    have : admsAt (p :: l) e = (Bool.rec (admsAt l e) p.2 (Nat.beq p.1 e) : List Adm) := rfl
    rw [this]
    cases Nat.beq p.1 e
    · exact keepL_at h2
    · exact h1
theorem keepL_sel {pk : Nat} {l : List (Nat × List Adm)} {e : Nat} {S : SL} (h : keepL pk l = true) : keepA pk (admsSel l e S) = true := by
  unfold admsSel
  cases hasA l (Nat.add e (Nat.mul 1000 (slit0 S)))
  · exact keepL_at h
  · exact keepL_at h
theorem admsX_ok {pk : Nat} : ∀ {l : List Adm} {S : SL} {M : T} {nx : Nat} {E : Env} {ρ : Ren} {K : SL → T → Nat → Bool}, EOk E → keepA pk l = true → SR E ρ N S a → Sim E ρ G F M nx w → admsX l S M nx K = true → ∃ S' M' nx' E' ρ', EOk E' ∧ MLe E.M E'.M ∧ SR E' ρ' N S' a ∧ Sim E' ρ' G F M' nx' w ∧ K S' M' nx' = true ∧ ∀ i e, i < pk → ρ i = some e → ρ' i = some e
  | [], S, M, nx, E, ρ, K, hE, _, s, h, hk => ⟨S, M, nx, E, ρ, hE, MLe.refl _, s, h, hk, fun _ _ _ q => q⟩
  | .can k live :: l, S, M, nx, E, ρ, K, hE, hp, s, h, hk => by
    obtain ⟨hp1, hp2⟩ := and2 hp
    rw [Nat.ble_eq] at hp1
    obtain ⟨S1, M1, n1, ρ1, s1, h1, k1, p1⟩ := canX_ok (K := fun S M nx => admsX l S M nx K) s h hk
    obtain ⟨S2, M2, n2, E2, ρ2, o2, m2, s2, h2, k2, p2⟩ := admsX_ok hE hp2 s1 h1 k1
    exact ⟨S2, M2, n2, E2, ρ2, o2, m2, s2, h2, k2, fun i e q1 q2 => p2 i e q1 (p1 i e (Nat.lt_of_lt_of_le q1 hp1) q2)⟩
  | .born t Ty sz α enc :: l, S, M, nx, E, ρ, K, hE, hp, s, h, hk => by
    obtain ⟨S1, M1, n1, ρ1, le1, s1, h1, k1⟩ := bornX_ok (K := fun S M nx => admsX l S M nx K) s h hk
    obtain ⟨S2, M2, n2, E2, ρ2, o2, m2, s2, h2, k2, p2⟩ := admsX_ok hE (show keepA pk l = true from hp) s1 h1 k1
    exact ⟨S2, M2, n2, E2, ρ2, o2, m2, s2, h2, k2, fun i e q1 q2 => p2 i e q1 (le1 i e q2)⟩
  | .cell i q r Ty sz α enc :: l, S, M, nx, E, ρ, K, hE, hp, s, h, hk => by
    obtain ⟨M1, n1, ρ1, le1, h1, k1⟩ := cellX_ok (K := fun M nx => admsX l S M nx K) h hk
    obtain ⟨S2, M2, n2, E2, ρ2, o2, m2, s2, h2, k2, p2⟩ := admsX_ok hE (show keepA pk l = true from hp) (s.mono le1) h1 k1
    exact ⟨S2, M2, n2, E2, ρ2, o2, m2, s2, h2, k2, fun i e q1 q2 => p2 i e q1 (le1 i e q2)⟩
  | .up t :: l, S, M, nx, E, ρ, K, hE, hp, s, h, hk => by
    obtain ⟨S1, s1, k1⟩ := upX_ok (K := fun S => admsX l S M nx K) s hk
    exact admsX_ok hE (show keepA pk l = true from hp) s1 h k1
  | .upc i q r :: l, S, M, nx, E, ρ, K, hE, hp, s, h, hk => by
    obtain ⟨M1, h1, k1⟩ := upcX_ok (K := fun M => admsX l S M nx K) h hk
    exact admsX_ok hE (show keepA pk l = true from hp) s h1 k1
  | .upm i :: l, S, M, nx, E, ρ, K, hE, hp, s, h, hk => by
    obtain ⟨M1, h1, k1⟩ := upmX_ok (K := fun M => admsX l S M nx K) h hk
    exact admsX_ok hE (show keepA pk l = true from hp) s h1 k1
  | .shr i :: l, S, M, nx, E, ρ, K, hE, hp, s, h, hk => by
    obtain ⟨M1, h1, k1⟩ := shrX_ok (K := fun M => admsX l S M nx K) h hk
    exact admsX_ok hE (show keepA pk l = true from hp) s h1 k1
  | .kb i ak av α kf vf :: l, S, M, nx, E, ρ, K, hE, hp, s, h, hk => by
    obtain ⟨M1, h1, k1⟩ := kbX_ok (K := fun M => admsX l S M nx K) h hk
    exact admsX_ok hE (show keepA pk l = true from hp) s h1 k1
  | .kfork i q r :: l, S, M, nx, E, ρ, K, hE, hp, s, h, hk => by
    obtain ⟨M1, h1, k1⟩ := kforkX_ok (K := fun M => admsX l S M nx K) h hk
    exact admsX_ok hE (show keepA pk l = true from hp) s h1 k1
  | .kjoin i q r ak av α kf vf :: l, S, M, nx, E, ρ, K, hE, hp, s, h, hk => by
    obtain ⟨M1, n1, ρ1, le1, h1, k1⟩ := kjoinX_ok (K := fun M nx => admsX l S M nx K) h hk
    obtain ⟨S2, M2, n2, E2, ρ2, o2, m2, s2, h2, k2, p2⟩ := admsX_ok hE (show keepA pk l = true from hp) (s.mono le1) h1 k1
    exact ⟨S2, M2, n2, E2, ρ2, o2, m2, s2, h2, k2, fun i e q1 q2 => p2 i e q1 (le1 i e q2)⟩
  | .bors t Ty sz α enc :: l, S, M, nx, E, ρ, K, hE, hp, s, h, hk => by
    rcases ifB_ok (show ifB (isSy (getS t S)) (admsX l S M nx K) (bornX t Ty sz α enc S M nx fun S M nx => admsX l S M nx K) = true from hk) with ⟨_, hk⟩ | ⟨_, hk⟩
    · exact admsX_ok hE (show keepA pk l = true from hp) s h hk
    obtain ⟨S1, M1, n1, ρ1, le1, s1, h1, k1⟩ := bornX_ok (K := fun S M nx => admsX l S M nx K) s h hk
    obtain ⟨S2, M2, n2, E2, ρ2, o2, m2, s2, h2, k2, p2⟩ := admsX_ok hE (show keepA pk l = true from hp) s1 h1 k1
    exact ⟨S2, M2, n2, E2, ρ2, o2, m2, s2, h2, k2, fun i e q1 q2 => p2 i e q1 (le1 i e q2)⟩
  | .die :: l, S, M, nx, E, ρ, K, hE, hp, s, h, hk => by cases (show false = true from hk)
  | .fix t n :: l, S, M, nx, E, ρ, K, hE, hp, s, h, hk => by
    obtain ⟨S1, s1, k1⟩ := fixX_ok (K := fun S => admsX l S M nx K) s hk
    exact admsX_ok hE (show keepA pk l = true from hp) s1 h k1
  | .frz t :: l, S, M, nx, E, ρ, K, hE, hp, s, h, hk => by
    have hk' : (frz1 (getS t S) M fun v M => admsX l (.cons t v S) M nx K) = true := hk
    have hne : getS t S ≠ .bad := fun e => by rw [e] at hk'; cases hk'
    obtain ⟨x, q1, q2⟩ := (s.at_ t).resolve_left hne
    obtain ⟨E1, M1, u, e1, e2, e3, e4, k1⟩ := frz1_ok h q1 hk'
    have hE1 : EOk E1 := ⟨fun i => by rw [e2]; exact hE.1 i, Tied.mono e1.mem hE.2⟩
    have s1 : SR E1 ρ N (.cons t u S) a := ⟨s.size, s.defs, fun r => by
      by_cases q : t = r
      · subst q
        rw [getS_self]
        exact .inr ⟨x, den_mono (ρ := fun _ => none) (fun _ _ q => by cases q) u x e4, q2⟩
      · rw [getS_ne _ _ q]
        exact (s.at_ r).imp id fun ⟨y, y1, y2⟩ => ⟨y, den_env e1 _ _ y1, y2⟩⟩
    obtain ⟨S2, M2, n2, E2, ρ2, o2, m2, s2, h2, k2, p2⟩ := admsX_ok hE1 (show keepA pk l = true from hp) s1 e3 k1
    exact ⟨S2, M2, n2, E2, ρ2, o2, MLe.trans e1.mem m2, s2, h2, k2, p2⟩
  | .frzc i q r :: l, S, M, nx, E, ρ, K, hE, hp, s, h, hk => by
    obtain ⟨E1, M1, e1, e2, h1, k1⟩ := frzcX_ok (K := fun M => admsX l S M nx K) h hk
    have hE1 : EOk E1 := ⟨fun i => by rw [e2]; exact hE.1 i, Tied.mono e1.mem hE.2⟩
    have s1 : SR E1 ρ N S a := ⟨s.size, s.defs, fun r => (s.at_ r).imp id fun ⟨y, y1, y2⟩ => ⟨y, den_env e1 _ _ y1, y2⟩⟩
    obtain ⟨S2, M2, n2, E2, ρ2, o2, m2, s2, h2, k2, p2⟩ := admsX_ok hE1 (show keepA pk l = true from hp) s1 h1 k1
    exact ⟨S2, M2, n2, E2, ρ2, o2, MLe.trans e1.mem m2, s2, h2, k2, p2⟩
  | .fixo i q r n :: l, S, M, nx, E, ρ, K, hE, hp, s, h, hk => by
    obtain ⟨M1, h1, k1⟩ := fixoX_ok (K := fun M => admsX l S M nx K) h hk
    exact admsX_ok hE (show keepA pk l = true from hp) s h1 k1
  | .fixc i q r n :: l, S, M, nx, E, ρ, K, hE, hp, s, h, hk => by
    obtain ⟨M1, h1, k1⟩ := fixcX_ok (K := fun M => admsX l S M nx K) h hk
    exact admsX_ok hE (show keepA pk l = true from hp) s h1 k1
def LpOk (P : Program) (N pk : Nat) (lp : LpF) (b : Bool) (j : Nat) (x : XC) : Prop := ∀ (c : Code) (S : SL) (M : T) (nx : Nat) (E : Env) (ρ : Ren) (G : GS) (F : List Chunk) (a : Act) (w : World) (K : KC) (Q : Exit → Act → World → Prop), EOk E → chkC P N x c = true → SR E ρ N S a → Sim E ρ G F M nx w → lp j S M nx K = true →
  (∀ e S' M' nx' E' ρ' a' w', K e S' M' nx' = true → Rel false pk E ρ E' ρ' → SR E' ρ' N S' a' → Sim E' ρ' G F M' nx' w' → Q (exOf e) a' w') → (bif b then Code.loop c else c).wp P Q a w
theorem codeX_ok (hm : P.follows .mixedOrders = true) {cf : CallF} (hcf : CallOk P cf) {lp : LpF} {lf : Nat} {fl : Bool} {pk : Nat} : ∀ (xc : XC) (c : Code) {S : SL} {M : T} {nx : Nat} {E : Env} {ρ : Ren} {a : Act} {w : World} {K : KC} {Q : Exit → Act → World → Prop}, EOk E → (fl = true → plain xc = true) → keepB pk xc = true → (∀ b j x, (b, j, x) ∈ lpsOf xc → LpOk P N pk lp b j x) → chkC P N xc c = true → SR E ρ N S a → Sim E ρ G F M nx w → codeX cf lp lf xc S M nx K = true →
    (∀ e S' M' nx' E' ρ' a' w', K e S' M' nx' = true → Rel fl pk E ρ E' ρ' → SR E' ρ' N S' a' → Sim E' ρ' G F M' nx' w' → Q (exOf e) a' w') → c.wp P Q a w := by
  intro xc
  induction xc with
  | bad =>
    intro c S M nx E ρ a w K Q hE hfl hkp hlp hc s h hk hq
    cases hk
  | skip =>
    intro c S M nx E ρ a w K Q hE hfl hkp hlp hc s h hk hq
    cases c <;> simp only [chkC] at hc <;> first | (cases hc; done) | skip
    exact wp_skip (hq 0 _ _ _ _ _ _ _ hk (Ext.of hE (Ren.Le.refl _)).rel s h)
  | ret =>
    intro c S M nx E ρ a w K Q hE hfl hkp hlp hc s h hk hq
    cases c <;> simp only [chkC] at hc <;> first | (cases hc; done) | skip
    exact wp_ret (hq 1 _ _ _ _ _ _ _ hk (Ext.of hE (Ren.Le.refl _)).rel s h)
  | exit k =>
    intro c S M nx E ρ a w K Q hE hfl hkp hlp hc s h hk hq
    cases c <;> simp only [chkC] at hc <;> first | (cases hc; done) | skip
    have := Nat.eq_of_beq_eq_true hc
    subst this
    exact wp_exit (hq _ _ _ _ _ _ _ _ hk (Ext.of hE (Ren.Le.refl _)).rel s h)
  | reg draw n tr =>
    intro c S M nx E ρ a w K Q hE hfl hkp hlp hc s h hk hq
    cases c <;> simp only [chkC] at hc <;> first | (cases hc; done) | skip
    rename_i id ops d
    obtain ⟨hc, c3⟩ := and2 hc
    obtain ⟨c1, c2⟩ := and2 hc
    rw [decide_eq_true_eq] at c1
    subst c1
    cases draw with
    | true =>
      refine wp_region_tree hm n _ c3 ?_
      exact treeX_ok hE hcf s h.drawn (fun S' M' nx' E' ρ' a' w' k1 k2 k3 k4 => hq 0 _ _ _ _ _ _ _ k1 k2.rel k3 k4) c2 hk
    | false =>
      cases tr with
      | split x y t u => cases c3
      | leaf sts =>
        have hall : ∀ st ∈ sts, chkSt P ops N st = true := fun st hst => List.all_eq_true.1 c2 st hst
        obtain ⟨hc, c5⟩ := and2 c3
        obtain ⟨c3, c4⟩ := and2 hc
        rw [decide_eq_true_eq] at c5
        have c4 := Nat.eq_of_beq_eq_true c4
        refine wp_region ?_
        rw [c4, ← c5]
        exact wpL_ops c3 (regX_ok hcf hE hall s h hk fun S' M' nx' E' ρ' a' w' k1 k2 k3 k4 => hq 0 _ _ _ _ _ _ _ k1 k2.rel k3 k4)
  | seq x y ihx ihy =>
    intro c S M nx E ρ a w K Q hE hfl hkp hlp hc s h hk hq
    cases c <;> simp only [chkC] at hc <;> first | (cases hc; done) | skip
    obtain ⟨c1, c2⟩ := and2 hc
    refine wp_seq (ihx _ hE (fun q => (and2 (hfl q)).1) (and2 hkp).1 (fun b j x h => hlp b j x (List.mem_append.2 (.inl h))) c1 s h hk fun e S' M' nx' E' ρ' a' w' k1 k2 k3 k4 => ?_)
    match e, k1 with
    | 0, k1 => exact ihy _ k2.one (fun q => (and2 (hfl q)).2) (and2 hkp).2 (fun b j x h => hlp b j x (List.mem_append.2 (.inr h))) c2 k3 k4 k1 fun e S2 M2 nx2 E2 ρ2 a2 w2 j1 j2 => hq e _ _ _ _ _ _ _ j1 (k2.trans j2)
    | 1, k1 => exact hq 1 _ _ _ _ _ _ _ k1 k2 k3 k4
    | n + 2, k1 => exact hq (n + 2) _ _ _ _ _ _ _ k1 k2 k3 k4
  | cond p x y ihx ihy =>
    intro c S M nx E ρ a w K Q hE hfl hkp hlp hc s h hk hq
    cases c <;> simp only [chkC] at hc <;> first | (cases hc; done) | skip
    obtain ⟨hc, c3⟩ := and2 hc
    obtain ⟨c1, c2⟩ := and2 hc
    obtain ⟨b, S, h2, s, h4⟩ := condX_ok s c1 hk
    rcases ifB_ok h4 with ⟨rfl, h5⟩ | ⟨rfl, h5⟩
    · exact wp_cond_true h2 (ihx _ hE (fun q => (and2 (hfl q)).1) (and2 hkp).1 (fun b j x h => hlp b j x (List.mem_append.2 (.inl h))) c2 s h h5 hq)
    · exact wp_cond_false h2 (ihy _ hE (fun q => (and2 (hfl q)).2) (and2 hkp).2 (fun b j x h => hlp b j x (List.mem_append.2 (.inr h))) c3 s h h5 hq)
  | block k x ih =>
    intro c S M nx E ρ a w K Q hE hfl hkp hlp hc s h hk hq
    cases c <;> simp only [chkC] at hc <;> first | (cases hc; done) | skip
    rename_i i cc
    obtain ⟨c1, c2⟩ := and2 hc
    have c1 := Nat.eq_of_beq_eq_true c1
    subst c1
    refine wp_block (ih _ hE hfl hkp hlp c2 s h hk fun e S' M' nx' E' ρ' a' w' k1 k2 k3 k4 => ?_)
    rcases ifB_ok k1 with ⟨q, g1⟩ | ⟨q, g1⟩
    · have he := Nat.eq_of_beq_eq_true q
      have h0 := hq 0 _ _ _ _ _ _ _ g1 k2 k3 k4
      rw [he]
      simp only [exOf, Exit.inBlock, if_true]
      exact h0
    · have := hq e _ _ _ _ _ _ _ g1 k2 k3 k4
      match e, q, this with
      | 0, _, this => exact this
      | 1, _, this => exact this
      | n + 2, q, this =>
        have hne : ¬ n = i := fun e => by subst e; simp at q
        simp only [exOf, Exit.inBlock, if_neg hne]
        exact this
  | loop live x ih =>
    intro c S M nx E ρ a w K Q hE hfl hkp hlp hc s h hk hq
    cases c <;> simp only [chkC] at hc <;> first | (cases hc; done) | skip
    rename_i cc
    refine wp_loop_rounds lf ?_
    have key : ∀ (n : Nat) {S : SL} {M : T} {nx : Nat} {E : Env} {ρ : Ren} {a : Act} {w : World}, EOk E → SR E ρ N S a → Sim E ρ G F M nx w →
        (Nat.rec (motive := fun _ => SL → T → Nat → Bool) (fun _ _ _ => false) (fun _ again S M nx => packX S live .nil fun S => codeX cf lp lf x S M nx fun e S M nx => Nat.casesOn e (again S M nx) fun e' => K (Nat.succ e') S M nx) n S M nx) = true →
        (∀ e S' M' nx' E' ρ' a' w', K e S' M' nx' = true → Rel fl pk E ρ E' ρ' → SR E' ρ' N S' a' → Sim E' ρ' G F M' nx' w' → Q (exOf e) a' w') → Code.rounds P cc Q n a w := by
      intro n
      induction n with
      | zero => intro S M nx E ρ a w _ _ _ hk; cases hk
      | succ n ihn =>
        intro S M nx E ρ a w hE s h hk hq
        obtain ⟨S1, s1, hk1⟩ := packX_ok s (SR.nil s.size s.defs) hk
        refine ih _ hE hfl hkp hlp hc s1 h hk1 fun e S' M' nx' E' ρ' a' w' k1 k2 k3 k4 => ?_
        match e, k1 with
        | 0, k1 => exact ihn k2.one k3 k4 k1 fun e S2 M2 nx2 E2 ρ2 a2 w2 j1 j2 => hq e _ _ _ _ _ _ _ j1 (k2.trans j2)
        | 1, k1 => exact hq 1 _ _ _ _ _ _ _ k1 k2 k3 k4
        | m + 2, k1 => exact hq (m + 2) _ _ _ _ _ _ _ k1 k2 k3 k4
    exact key lf hE s h hk hq
  | inv j x ih =>
    intro c S M nx E ρ a w K Q hE hfl hkp hlp hc s h hk hq
    cases c <;> simp only [chkC] at hc <;> first | (cases hc; done) | skip
    cases fl with
    | true => exact absurd (hfl rfl) (by simp [plain])
    | false => exact hlp true j x (by simp [lpsOf]) _ S M nx E ρ G F a w K Q hE hc s h hk hq
  | aft x l ih =>
    intro c S M nx E ρ a w K Q hE hfl hkp hlp hc s h hk hq
    cases fl with
    | true => exact absurd (hfl rfl) (by simp [plain])
    | false =>
      have hc' : chkC P N x c = true := by
        cases c <;> exact hc
      refine ih c hE (fun q => by cases q) (and2 hkp).1 hlp hc' s h hk fun e S' M' nx' E' ρ' a' w' k1 k2 k3 k4 => ?_
      obtain ⟨S2, M2, n2, E2, ρ2, o2, m2, s2, h2, g2, p2⟩ := admsX_ok k2.one (keepL_sel (and2 hkp).2) k3 k4 k1
      exact hq e S2 M2 n2 E2 ρ2 a' w' g2 (k2.trans ⟨o2, m2, fun q => (by cases q), p2⟩) s2 h2
  | pre l x ih =>
    intro c S M nx E ρ a w K Q hE hfl hkp hlp hc s h hk hq
    cases fl with
    | true => exact absurd (hfl rfl) (by simp [plain])
    | false =>
      have hc' : chkC P N x c = true := by
        cases c <;> exact hc
      obtain ⟨S2, M2, n2, E2, ρ2, o2, m2, s2, h2, g2, p2⟩ := admsX_ok (K := fun S M nx => codeX cf lp lf x S M nx K) hE (and2 hkp).1 s h hk
      exact ih c o2 (fun q => by cases q) (and2 hkp).2 hlp hc' s2 h2 g2 fun e S' M' nx' E' ρ' a' w' k1 k2 k3 k4 => hq e S' M' nx' E' ρ' a' w' k1 (Rel.trans ⟨o2, m2, fun q => (by cases q), p2⟩ k2) k3 k4
  | spc j x ih =>
    intro c S M nx E ρ a w K Q hE hfl hkp hlp hc s h hk hq
    cases fl with
    | true => exact absurd (hfl rfl) (by simp [plain])
    | false =>
      have hc' : chkC P N x c = true := by
        cases c <;> exact hc
      exact hlp false j x (by simp [lpsOf]) c S M nx E ρ G F a w K Q hE hc' s h hk hq
end
inductive XRes | none | one (t : Nat) | two (t u : Nat) | cell (t : Nat) (agg : Bool) (n : Nat) | ct (t : Nat) (agg : Bool) (n u : Nat)
inductive XF : Type 1 | mk (N : Nat) (res : XRes) (body : XC)
noncomputable def resX (r : XRes) (S : SL) (M : T) (K : AV → Bool) : Bool := XRes.casesOn r (K (.tup [])) (fun t => nb (getS t S) K) (fun t u => nb (getS t S) fun x => nb (getS u S) fun y => K (.tup [x, y])) (fun t agg n => nb (getS t S) fun p => ldY agg n p M K) (fun t agg n u => nb (getS t S) fun p => ldY agg n p M fun v => nb (getS u S) fun y => K (.tup [v, y]))
noncomputable def argsX (vs : List AV) : Nat → SL → (SL → Bool) → Bool := List.rec (fun _ S K => K S) (fun v _ ih n S K => ih (Nat.succ n) (.cons n v S) K) vs
def chkRes (P : Program) (r : XRes) (rs : List ResultVar) : Bool := match r, rs with
  | .none, [] => true
  | .one t, [.tmp t'] => Nat.beq t t'
  | .two t u, [.tmp t', .tmp u'] => Nat.beq t t' && Nat.beq u u'
  | .cell t agg n, [.cell t' ty] => Nat.beq t t' && decide (isAg P ty = some agg) && decide (szOf P ty = some n)
  | .ct t agg n u, [.cell t' ty, .tmp u'] => Nat.beq t t' && decide (isAg P ty = some agg) && decide (szOf P ty = some n) && Nat.beq u u'
  | _, _ => false
def bodyOf : XF → XC
  | .mk _ _ b => b
def nOf : XF → Nat
  | .mk n _ _ => n
def chkF (P : Program) (f : Nat) (xf : XF) : Bool := match xf, P.funcs[f]? with
  | .mk N res body, some fn => (match fn.body with | some c => Nat.beq fn.ntmps N && chkRes P res fn.results.toList && chkC P N body c | none => false)
  | _, none => false
abbrev SpecE := List AV → T → Nat → (AV → T → Nat → Bool) → Bool
inductive ES : Type 1 | mk (k : Nat) (sp : SpecE)
noncomputable def fP (l : List (Nat × Nat)) : (List (Nat × Nat) → Bool) → Bool := List.rec (fun K => K []) (fun p _ ih K => fN p.1 fun a => fN p.2 fun b => ih fun l => K ((a, b) :: l)) l
theorem fP_eq : ∀ {l : List (Nat × Nat)} {K : List (Nat × Nat) → Bool}, fP l K = K l
  | [], K => rfl
  | p :: l, K => by
    have : fP (p :: l) K = (fN p.1 fun a => fN p.2 fun b => fP l fun l => K ((a, b) :: l)) := rfl
    rw [this, fN_eq, fN_eq, fP_eq]
def belowB (n : Nat) (ps : List (Nat × Nat)) : Bool := ps.all fun p => Nat.blt p.2 n
theorem belowB_ok {n : Nat} {ps : List (Nat × Nat)} (h : belowB n ps = true) : ∀ p ∈ ps, p.2 < n := fun p hp => by
  have := List.all_eq_true.1 h p hp
  simpa [Nat.blt_eq] using this
noncomputable def canV (k : Nat) (v : AV) (M : T) (K : AV → T → Nat → Bool) : Bool := fP (numd 0 (walkI M 200 (upTo k (idsA v)) [])) fun ps => must (pinsB ps k) (must (newsOk ps) (fN ps.length fun n => must (belowB n ps) (renM ps M ps .leaf fun M' => atO (renA ps v) fun v' => K v' M' n)))
noncomputable def delM (l : List (Nat × Nat)) : T → (T → Bool) → Bool := List.rec (fun M K => K M) (fun p _ ih M K => T.set fuelT M p.1 none fun M => ih M K) l
noncomputable def lkB (ps : List (Nat × Nat)) (j : Nat) : Nat := List.rec 0 (fun p _ ih => Bool.rec ih p.1 (Nat.beq p.2 j)) ps
noncomputable def outQ (k nx : Nat) (ps : List (Nat × Nat)) (l : List Nat) : List (Nat × Nat) := List.rec [] (fun j _ ih => (j, Bool.rec (Nat.add nx j) (lkB ps j) (Nat.blt j k)) :: ih) l
def outB (k nx n : Nat) (ps qs : List (Nat × Nat)) : Bool := qs.all fun q => Nat.blt q.1 n && ((Nat.blt q.1 k && ps.any fun p => Nat.beq p.1 q.2 && Nat.beq p.2 q.1) || (Nat.ble k q.1 && Nat.beq q.2 (nx + q.1)))
noncomputable def natGo (k : Nat) (sp : SpecE) (vs : List AV) (M : T) (nx : Nat) (K : AV → T → Nat → Bool) : Bool := fP (numd 0 (walkI M 200 (idsL vs) [])) fun ps => must (newsOk ps) (fN ps.length fun n => must (belowB n ps) (atO (renL ps vs) fun us => renM ps M ps .leaf fun Ml => sp us Ml n fun v M' n' =>
  fP (outQ k nx ps (walkI M' 200 (upTo k (idsA v)) [])) fun qs => must (newsOk qs) (must (outB k nx n' ps qs) (atO (renA qs v) fun v' => delM ps M fun M1 => renM qs M' qs M1 fun M2 => fN (nx + n') fun n2 => K v' M2 n2))))
noncomputable def callX (tab : Nat → Option XF) (nat : Nat → List AV → Option ES) (lp : LpF) (lf : Nat) : Nat → CallF := Nat.rec (fun f vs M nx K => Option.casesOn (nat f vs) false fun es => ES.casesOn es fun k sp => natGo k sp vs M nx K) (fun _ ih f vs M nx K => Option.casesOn (nat f vs) (atO (tab f) fun xf => XF.casesOn xf fun N res body =>
  must (Nat.ble (lenL vs) N) (argsX vs 0 .nil fun S => codeX ih lp lf body S M nx fun e S M nx => ifB (Nat.blt 1 e) false (resX res S M fun v => K v M nx))) fun es => ES.casesOn es fun k sp => natGo k sp vs M nx K)
noncomputable def funE (k : Nat) (cf : CallF) (lp : LpF) (lf : Nat) (xf : XF) (vs : List AV) (M : T) (nx : Nat) (K : AV → T → Nat → Bool) : Bool := XF.casesOn xf fun N res body => must (Nat.ble (lenL vs) N) (argsX vs 0 .nil fun S => codeX cf lp lf body S M nx fun e S M nx => ifB (Nat.blt 1 e) false (resX res S M fun v => canV k v M K))
section
variable {P : Program} {E : Env} {ρ : Ren} {G : GS} {F : List Chunk} {M : T} {nx : Nat} {w : World} {N : Nat} {S : SL} {a : Act} {ops : Array Oper} {o : Oper} {pk : Nat}
theorem argsX_ok : ∀ {vs : List AV} {xs : List Value} {n : Nat} {S : SL} {K : SL → Bool}, denL E ρ vs = some xs → (∀ i x, xs[i]? = some x → a.tmps.getD (n + i) undef = x) → SR E ρ N S a → argsX vs n S K = true → ∃ S', SR E ρ N S' a ∧ K S' = true
  | [], xs, n, S, K, _, _, s, h => ⟨S, s, h⟩
  | v :: vs, xs, n, S, K, hd, hx, s, h => by
    obtain ⟨y, ys, h1, h2, rfl⟩ := denL_cons hd
    have h' : argsX vs (Nat.succ n) (.cons n v S) K = true := h
    refine argsX_ok h2 (fun i x hi => ?_) ⟨s.size, s.defs, fun t => ?_⟩ h'
    · have := hx (i + 1) x (by simpa using hi)
      rw [show n + (i + 1) = Nat.succ n + i by omega] at this
      exact this
    · by_cases e : n = t
      · subst e
        rw [getS_self]
        exact .inr ⟨y, h1, hx 0 y rfl⟩
      · rw [getS_ne _ _ e]
        exact s.at_ t
theorem slot_ok (s : SR E ρ N S a) {t : Nat} {K : AV → Bool} (h : nb (getS t S) K = true) : ∃ x, den E ρ (getS t S) = some x ∧ a.tmps.getD t undef = x ∧ K (getS t S) = true := by
  obtain ⟨h1, h2⟩ := nb_ok h
  obtain ⟨x, h3, h4⟩ := (s.at_ t).resolve_left h1
  exact ⟨x, h3, h4, h2⟩
theorem resX_ok (s : SR E ρ N S a) (h : Sim E ρ G F M nx w) {fn : Func} {r : XRes} {K : AV → Bool} (hc : chkRes P r fn.results.toList = true) (hk : resX r S M K = true) : ∃ v z, den E ρ v = some z ∧ K v = true ∧ (results fn a.tmps).run P w = .ok z w := by
  unfold chkRes at hc
  split at hc
  · rename_i h1
    have hr := toL h1
    exact ⟨.tup [], .tuple #[], by simp [den, denL], hk, results_none hr _ _ _⟩
  · rename_i t t' h1
    have hr := toL h1
    have := Nat.eq_of_beq_eq_true hc
    subst this
    obtain ⟨x, g1, g2, g3⟩ := slot_ok s (show nb (getS t S) K = true from hk)
    exact ⟨_, x, g1, g3, by rw [results_tmp hr, g2]⟩
  · rename_i t u t' u' h1
    have hr := toL h1
    obtain ⟨c1, c2⟩ := and2 hc
    have c1 := Nat.eq_of_beq_eq_true c1
    have c2 := Nat.eq_of_beq_eq_true c2
    subst c1; subst c2
    obtain ⟨x, g1, g2, g3⟩ := slot_ok s (show nb (getS t S) (fun x => nb (getS u S) fun y => K (.tup [x, y])) = true from hk)
    obtain ⟨y, g4, g5, g6⟩ := slot_ok s (show nb (getS u S) (fun y => K (.tup [getS t S, y])) = true from g3)
    exact ⟨_, .tuple #[x, y], by simp only [den, denL, g1, g4], g6, by rw [results_tmp2 hr, g2, g5]⟩
  · rename_i t agg n t' ty h1
    have hr := toL h1
    obtain ⟨hc, c3⟩ := and2 hc
    obtain ⟨c1, c2⟩ := and2 hc
    rw [decide_eq_true_eq] at c2 c3
    have c1 := Nat.eq_of_beq_eq_true c1
    subst c1
    obtain ⟨x, g1, g2, g3⟩ := slot_ok s (show nb (getS t S) (fun p => ldY agg n p M K) = true from hk)
    have fin : ∀ {u : AV} {z : Value}, den E ρ u = some z → K u = true → (Instr.loadAt ty x).run P w = .ok z w → ∃ v z, den E ρ v = some z ∧ K v = true ∧ (results fn a.tmps).run P w = .ok z w := by
      intro u z d1 d2 d3
      refine ⟨u, z, d1, d2, ?_⟩
      have e1 : a.tmps[t]?.getD undef = x := by simpa using g2
      cases x with
      | pointer p =>
        cases p with
        | some ad =>
          simp only [Instr.loadAt, Instr.sureAddr, Sem.run_bind, Sem.run_pure, Result.andThen_ok] at d3
          simp [results, hr, e1, asAddr, d3]
        | none => simp [Instr.loadAt, Instr.sureAddr] at d3
      | _ => simp [Instr.loadAt, Instr.sureAddr] at d3
    obtain ⟨u, z, d1, d2, d3⟩ := ldY_ok (P := P) h g1 g3 c2 c3
    exact fin d1 d2 d3
  · rename_i t agg n v0 t' ty u' h1
    have hr := toL h1
    obtain ⟨hc, c4⟩ := and2 hc
    obtain ⟨hc, c3⟩ := and2 hc
    obtain ⟨c1, c2⟩ := and2 hc
    rw [decide_eq_true_eq] at c2 c3
    have c1 := Nat.eq_of_beq_eq_true c1
    subst c1
    have c4 := Nat.eq_of_beq_eq_true c4
    subst c4
    obtain ⟨x, g1, g2, g3⟩ := slot_ok s (show nb (getS t S) (fun p => ldY agg n p M fun v => nb (getS v0 S) fun y => K (.tup [v, y])) = true from hk)
    obtain ⟨u, z, d1, d2, d3⟩ := ldY_ok (P := P) h g1 g3 c2 c3
    obtain ⟨y, e1, e2, e3⟩ := slot_ok s d2
    refine ⟨_, .tuple #[z, y], by simp only [den, denL, d1, e1], e3, ?_⟩
    rw [results_cell_tmp hr, g2, e2]
    cases x with
    | pointer p =>
      cases p with
      | some ad =>
        simp only [Instr.loadAt, Instr.sureAddr, Sem.run_bind, Sem.run_pure, Result.andThen_ok] at d3
        simp [asAddr, d3]
      | none => simp [Instr.loadAt, Instr.sureAddr] at d3
    | _ => simp [Instr.loadAt, Instr.sureAddr] at d3
  · cases hc
theorem renM_all : ∀ {ps l : List (Nat × Nat)} {M acc : T} {K : T → Bool}, renM ps M l acc K = true → ∀ p ∈ l, ∃ o, M.get p.1 = some o
  | ps, [], M, acc, K, h, p, hp => by simp at hp
  | ps, q :: l, M, acc, K, h, p, hp => by
    have h' : (atO (M.get q.1) fun o => atO (renO ps o) fun o' => T.set fuelT acc q.2 (some o') fun acc => renM ps M l acc K) = true := h
    obtain ⟨o, h1, h2⟩ := atO_ok h'
    obtain ⟨o', h3, h4⟩ := atO_ok h2
    obtain ⟨acc', h5, s1, s2⟩ := T.set_ok _ _ _ _ _ h4
    rcases List.mem_cons.1 hp with rfl | hp
    · exact ⟨o, h1⟩
    · exact renM_all h5 p hp
theorem renM_over : ∀ {ps l : List (Nat × Nat)} {M M1 acc : T} {K : T → Bool}, (∀ j o, acc.get j = some o → (∃ i o0, (i, j) ∈ ps ∧ M.get i = some o0 ∧ renO ps o0 = some o) ∨ M1.get j = some o) → (∀ p ∈ l, p ∈ ps) → renM ps M l acc K = true →
    ∃ M', K M' = true ∧ ∀ j o, M'.get j = some o → (∃ i o0, (i, j) ∈ ps ∧ M.get i = some o0 ∧ renO ps o0 = some o) ∨ M1.get j = some o
  | ps, [], M, M1, acc, K, ha, _, h => ⟨acc, h, ha⟩
  | ps, p :: l, M, M1, acc, K, ha, hl, h => by
    have h' : (atO (M.get p.1) fun o => atO (renO ps o) fun o' => T.set fuelT acc p.2 (some o') fun acc => renM ps M l acc K) = true := h
    obtain ⟨o, h1, h2⟩ := atO_ok h'
    obtain ⟨o', h3, h4⟩ := atO_ok h2
    obtain ⟨acc', h5, s1, s2⟩ := T.set_ok _ _ _ _ _ h4
    refine renM_over (fun j ob hj => ?_) (fun q hq => hl q (by simp [hq])) h5
    by_cases e : j = p.2
    · subst e
      rw [s1] at hj
      cases hj
      exact .inl ⟨p.1, o, hl p (by simp), h1, h3⟩
    · rw [s2 j e] at hj
      exact ha j ob hj
theorem delM_ok : ∀ {l : List (Nat × Nat)} {M : T} {K : T → Bool}, delM l M K = true → ∃ M', K M' = true ∧ (∀ j o, M'.get j = some o → M.get j = some o ∧ ∀ p ∈ l, p.1 ≠ j)
  | [], M, K, h => ⟨M, h, fun j o hj => ⟨hj, fun p hp => by simp at hp⟩⟩
  | p :: l, M, K, h => by
    have h' : (T.set fuelT M p.1 none fun M => delM l M K) = true := h
    obtain ⟨M1, h1, s1, s2⟩ := T.set_ok _ _ _ _ _ h'
    obtain ⟨M2, h2, h3⟩ := delM_ok h1
    refine ⟨M2, h2, fun j o hj => ?_⟩
    obtain ⟨q1, q2⟩ := h3 j o hj
    have hne : p.1 ≠ j := fun e => by rw [← e, s1] at q1; cases q1
    refine ⟨by rw [← s2 j (fun e => hne e.symm)]; exact q1, fun r hr => ?_⟩
    rcases List.mem_cons.1 hr with rfl | hr
    · exact hne
    · exact q2 r hr
theorem outB_ok {k nx n : Nat} {ps qs : List (Nat × Nat)} (h : outB k nx n ps qs = true) : ∀ q ∈ qs, q.1 < n ∧ ((q.1 < k ∧ (q.2, q.1) ∈ ps) ∨ (k ≤ q.1 ∧ q.2 = nx + q.1)) := fun q hq => by
  have := List.all_eq_true.1 h q hq
  simp only [Bool.and_eq_true, Bool.or_eq_true, Nat.blt_eq, Nat.ble_eq] at this
  obtain ⟨h1, h2⟩ := this
  refine ⟨h1, ?_⟩
  rcases h2 with ⟨h2, h3⟩ | ⟨h2, h3⟩
  · obtain ⟨p, q1, q2⟩ := List.any_eq_true.1 h3
    simp only [Bool.and_eq_true] at q2
    have e1 := Nat.eq_of_beq_eq_true q2.1
    have e2 := Nat.eq_of_beq_eq_true q2.2
    have : p = (q.2, q.1) := by cases p; simp_all
    rw [this] at q1
    exact .inl ⟨h2, q1⟩
  · exact .inr ⟨h2, Nat.eq_of_beq_eq_true h3⟩
theorem canV_ok (h : Sim E ρ G F M nx w) {k : Nat} {v : AV} {x : Value} {K : AV → T → Nat → Bool} (hd : den E ρ v = some x) (hk : canV k v M K = true) :
    ∃ v' M' n' ρ', Sim E ρ' G F M' n' w ∧ den E ρ' v' = some x ∧ K v' M' n' = true ∧ ∀ i e, i < k → ρ i = some e → ρ' i = some e := by
  unfold canV at hk
  rw [fP_eq] at hk
  generalize numd 0 (walkI M 200 (upTo k (idsA v)) []) = ps at hk
  obtain ⟨h1, hk⟩ := must_ok hk
  obtain ⟨h2, hk⟩ := must_ok hk
  rw [fN_eq] at hk
  obtain ⟨h3, hk⟩ := must_ok hk
  obtain ⟨M', h4, h5⟩ := renM_ok (ps := ps) (fun j o hj => by simp [T.get_leaf] at hj) (fun p hp => hp) hk
  obtain ⟨v', h6, h7⟩ := atO_ok h4
  exact ⟨v', M', _, renR ps ρ, h.ren h2 (belowB_ok h3) h5, renA_den h2 _ _ _ h6 hd, h7, fun i e q1 q2 => by rw [renR_at h2 (pinsB_ok h1 i q1)]; exact q2⟩
def NatE (P : Program) (f k : Nat) (sp : SpecE) : Prop := ∀ (us : List AV) (xs : List Value) (E : Env) (ρ : Ren) (G : GS) (F : List Chunk) (M : T) (nx : Nat) (w : World) (K : AV → T → Nat → Bool) (R : Ending → World → Prop), EOk E → Sim E ρ G F M nx w → denL E ρ us = some xs → sp us M nx K = true →
  (∀ v M' nx' E' ρ' w' z, K v M' nx' = true → EOk E' → MLe E.M E'.M → (∀ i e, i < k → ρ i = some e → ρ' i = some e) → Sim E' ρ' G F M' nx' w' → den E' ρ' v = some z → R (.returned z) w') → Calls P f xs.toArray w R
theorem natGo_ok {f k : Nat} {sp : SpecE} (hn : NatE P f k sp) {vs : List AV} {xs : List Value} {K : AV → T → Nat → Bool} {R : Ending → World → Prop} (hE : EOk E) (h : Sim E ρ G F M nx w) (hd : denL E ρ vs = some xs) (hk : natGo k sp vs M nx K = true)
    (hr : ∀ v M' nx' E' ρ' w' z, K v M' nx' = true → Ext E ρ E' ρ' → Sim E' ρ' G F M' nx' w' → den E' ρ' v = some z → R (.returned z) w') : Calls P f xs.toArray w R := by
  classical
  unfold natGo at hk
  rw [fP_eq] at hk
  generalize numd 0 (walkI M 200 (idsL vs) []) = ps at hk
  obtain ⟨h1, hk⟩ := must_ok hk
  rw [fN_eq] at hk
  obtain ⟨h2, hk⟩ := must_ok hk
  have h2 := belowB_ok h2
  obtain ⟨us, h3, hk⟩ := atO_ok hk
  have hall := renM_all hk
  obtain ⟨Ml, hsp, hMl⟩ := renM_ok (ps := ps) (fun j o hj => by simp [T.get_leaf] at hj) (fun p hp => hp) hk
  obtain ⟨c, hh, hob, hinj⟩ := h.ex
  let B : Nat × Obj → Bool := fun q => decide (∃ p ∈ ps, ∃ e o, ρ p.1 = some e ∧ e.b = q.1 ∧ M.get p.1 = some o ∧ hasB e o = true)
  have hB : ∀ q : Nat × Obj, B q = true ↔ ∃ p ∈ ps, ∃ e o, ρ p.1 = some e ∧ e.b = q.1 ∧ M.get p.1 = some o ∧ hasB e o = true := fun q => by simp only [B, decide_eq_true_eq]
  have hh1 : Holds { G with M := E.M } w (c.filter B :: c.filter (fun q => !B q) :: F) := hh.perm (by
    simp only [List.flatten_cons, ← List.append_assoc]
    exact (List.filter_append_perm B c).append_right _)
  have hs : Sim E (renR ps ρ) G (c.filter (fun q => !B q) :: F) Ml ps.length w := by
    refine ⟨⟨c.filter B, hh1, fun j o hj => ?_, fun j k e f o o' hj hk he hf hb1 hb2 hb => ?_⟩, h.mem, fun j hj => ?_⟩
    · obtain ⟨i, o0, g1, g2, g3⟩ := hMl j o hj
      obtain ⟨e, a1, q⟩ := hob i o0 g2
      have hHB := renO_hasB (e := e) g3
      refine ⟨e, by rw [renR_at h1 g1]; exact a1, ?_⟩
      rcases q with ⟨q1, ob, q2, q3⟩ | ⟨q1, q2⟩
      · exact .inl ⟨by rw [hHB.1]; exact q1, ob, List.mem_filter.2 ⟨q2, (hB _).2 ⟨(i, j), g1, e, o0, a1, rfl, g2, q1⟩⟩, renO_rel h1 g3 q3⟩
      · exact .inr ⟨by rw [hHB.1]; exact q1, hHB.2 q2⟩
    · obtain ⟨i, o0, g1, g2, g3⟩ := hMl j o hj
      obtain ⟨i', o1, f1, f2, f3⟩ := hMl k o' hk
      rw [renR_at h1 g1] at he
      rw [renR_at h1 f1] at hf
      rw [(renO_hasB (e := e) g3).1] at hb1
      rw [(renO_hasB (e := f) f3).1] at hb2
      have := hinj i i' e f o0 o1 g2 f2 he hf hb1 hb2 hb
      subst this
      exact news_inj h1 g1 f1
    · unfold renR
      split
      · rename_i p hp
        have q1 := List.mem_of_find?_eq_some hp
        have q2 := List.find?_some hp
        have := Nat.eq_of_beq_eq_true q2
        have := h2 p q1
        omega
      · rfl
  refine hn us xs E (renR ps ρ) G _ Ml _ w _ R hE hs (renL_den h1 _ _ _ h3 hd) hsp fun v M' n' E' ρ' w' z kv hE' hm hpin hs' hz => ?_
  rw [fP_eq] at kv
  generalize outQ k nx ps (walkI M' 200 (upTo k (idsA v)) []) = qs at kv
  obtain ⟨g1, kv⟩ := must_ok kv
  obtain ⟨g2, kv⟩ := must_ok kv
  have g2 := outB_ok g2
  obtain ⟨v', g3, kv⟩ := atO_ok kv
  obtain ⟨M1, kv, hM1⟩ := delM_ok kv
  obtain ⟨M2, kv, hM2⟩ := renM_over (M1 := M1) (fun j o hj => .inr hj) (fun p hp => hp) kv
  rw [fN_eq] at kv
  obtain ⟨c', hh', hob', hinj'⟩ := hs'.ex
  let ρo : Ren := fun i => if i < nx then ρ i else ρ' (i - nx)
  have lt : ∀ i e, ρ i = some e → i < nx := fun i e q => by
    by_cases q1 : i < nx
    · exact q1
    · rw [h.fresh i (by omega)] at q; cases q
  have hle : ρ.Le ρo := fun i e q => by simp only [ρo, if_pos (lt i e q)]; exact q
  have hq : ∀ j i, (j, i) ∈ qs → ∀ e, ρ' j = some e → ρo i = some e := fun j i hji e he => by
    obtain ⟨q1, ⟨q2, q3⟩ | ⟨q2, q3⟩⟩ := g2 _ hji
    · obtain ⟨o, ho⟩ := hall _ q3
      obtain ⟨e0, a1, _⟩ := hob _ _ ho
      have := hpin j e0 q2 (by rw [renR_at h1 q3]; exact a1)
      rw [this] at he
      cases he
      exact hle _ _ a1
    · simp only at q2 q3
      have : ¬ i < nx := by omega
      simp only [ρo, if_neg this]
      rw [show i - nx = j by omega]; exact he
  have hrle : (renR qs ρ').Le ρo := fun i e q => by
    unfold renR at q
    split at q
    · rename_i p hp
      have q1 := List.mem_of_find?_eq_some hp
      have q2 := List.find?_some hp
      have q2 := Nat.eq_of_beq_eq_true q2
      subst q2
      exact hq p.1 p.2 q1 e q
    · cases q
  have hEE : EEq ρ E ⟨E.at_, E'.M⟩ := ⟨fun _ _ _ => rfl, hm⟩
  refine hr v' M2 (nx + n') ⟨E.at_, E'.M⟩ ρo w' z kv ⟨hEE, hle, hE.1, hE'.2⟩ ⟨⟨c' ++ c.filter (fun q => !B q), ?_, fun id o hid => ?_, fun i j e f o o' hi hj he hf hb1 hb2 hb => ?_⟩, hs'.mem, fun i hi => ?_⟩ (den_mono hrle _ _ (renA_den g1 _ _ _ g3 hz))
  · exact hh'.perm (by simp)
  · rcases hM2 id o hid with ⟨j, o0, p1, p2, p3⟩ | p1
    · obtain ⟨e, a1, q⟩ := hob' j o0 p2
      have hHB := renO_hasB (e := e) p3
      refine ⟨e, hq j id p1 e a1, ?_⟩
      rcases q with ⟨q1, ob, q2, q3⟩ | ⟨q1, q2⟩
      · exact .inl ⟨by rw [hHB.1]; exact q1, ob, List.mem_append.2 (.inl q2), (renO_rel (t2 := E.at_) g1 p3 q3).mono hrle⟩
      · exact .inr ⟨by rw [hHB.1]; exact q1, hHB.2 q2⟩
    · obtain ⟨q1, q2⟩ := hM1 id o p1
      obtain ⟨e, a1, q⟩ := hob id o q1
      refine ⟨e, hle _ _ a1, ?_⟩
      rcases q with ⟨r1, ob, r2, r3⟩ | r
      · refine .inl ⟨r1, ob, List.mem_append.2 (.inr (List.mem_filter.2 ⟨r2, ?_⟩)), (r3.env hEE).mono hle⟩
        have : ¬ B (e.b, ob) = true := fun hb => by
          obtain ⟨p, s1, e2, o2, s2, s3, s4, s5⟩ := (hB _).1 hb
          exact q2 p s1 (hinj p.1 id e2 e o2 o s4 q1 s2 a1 s5 r1 s3)
        simpa using this
      · exact .inr r
  · have nd := hh'.nodup
    simp only [List.flatten_cons, List.map_append] at nd
    have ap : ∀ b, b ∈ c'.map (·.1) → b ∈ (c.filter fun q => !B q).map (·.1) → False := fun b b1 b2 =>
      (List.nodup_append.1 nd).2.2 b b1 b (List.mem_append.2 (.inl b2)) rfl
    have blkN : ∀ id o e, (∃ j o0, (j, id) ∈ qs ∧ M'.get j = some o0 ∧ renO qs o0 = some o) → ρo id = some e → hasB e o = true → e.b ∈ c'.map (·.1) := by
      rintro id o e ⟨j, o0, p1, p2, p3⟩ he hb
      obtain ⟨e2, a1, q⟩ := hob' j o0 p2
      have := hq j id p1 e2 a1
      rw [this] at he; cases he
      rcases q with ⟨q1, ob, q2, q3⟩ | ⟨q1, q2⟩
      · exact List.mem_map.2 ⟨_, q2, rfl⟩
      · rw [(renO_hasB (e := e) p3).1, q1] at hb; cases hb
    have blkO : ∀ id o e, M1.get id = some o → ρo id = some e → hasB e o = true → e.b ∈ (c.filter fun q => !B q).map (·.1) := by
      intro id o e p1 he hb
      obtain ⟨q1, q2⟩ := hM1 id o p1
      obtain ⟨e2, a1, q⟩ := hob id o q1
      rw [hle _ _ a1] at he; cases he
      rcases q with ⟨r1, ob, r2, r3⟩ | ⟨r1, r2⟩
      · refine List.mem_map.2 ⟨_, List.mem_filter.2 ⟨r2, ?_⟩, rfl⟩
        have : ¬ B (e.b, ob) = true := fun hb => by
          obtain ⟨p, s1, e3, o2, s2, s3, s4, s5⟩ := (hB _).1 hb
          exact q2 p s1 (hinj p.1 id e3 e o2 o s4 q1 s2 a1 s5 r1 s3)
        simpa using this
      · rw [r1] at hb; cases hb
    rcases hM2 i o hi with m1 | m1 <;> rcases hM2 j o' hj with m2 | m2
    · obtain ⟨j1, o1, p1, p2, p3⟩ := m1
      obtain ⟨j2, o2, r1, r2, r3⟩ := m2
      obtain ⟨e1, a1, _⟩ := hob' j1 o1 p2
      obtain ⟨e2, a2, _⟩ := hob' j2 o2 r2
      have x1 := hq _ _ p1 _ a1
      have x2 := hq _ _ r1 _ a2
      rw [x1] at he; cases he
      rw [x2] at hf; cases hf
      rw [(renO_hasB (e := e) p3).1] at hb1
      rw [(renO_hasB (e := f) r3).1] at hb2
      have := hinj' j1 j2 e f o1 o2 p2 r2 a1 a2 hb1 hb2 hb
      subst this
      exact news_inj g1 p1 r1
    · exact (ap _ (blkN i o e m1 he hb1) (by rw [hb]; exact blkO j o' f m2 hf hb2)).elim
    · exact (ap _ (blkN j o' f m2 hf hb2) (by rw [← hb]; exact blkO i o e m1 he hb1)).elim
    · obtain ⟨q1, _⟩ := hM1 i o m1
      obtain ⟨q2, _⟩ := hM1 j o' m2
      obtain ⟨e1, a1, _⟩ := hob i o q1
      obtain ⟨e2, a2, _⟩ := hob j o' q2
      rw [hle _ _ a1] at he; cases he
      rw [hle _ _ a2] at hf; cases hf
      exact hinj i j e f o o' q1 q2 a1 a2 hb1 hb2 hb
  · have : ¬ i < nx := by omega
    simp only [ρo, if_neg this]
    exact hs'.fresh _ (by omega)
theorem run_fun (hm : P.follows .mixedOrders = true) {cf : CallF} (hcf : CallOk P cf) {lp : LpF} {lf : Nat} {fl : Bool} {pk : Nat} {f N : Nat} {res : XRes} {body : XC} (hf : chkF P f (.mk N res body) = true) (hfl : fl = true → plain body = true) (hkp : keepB pk body = true) (hlp : ∀ b j x, (b, j, x) ∈ lpsOf body → LpOk P N pk lp b j x)
    {vs : List AV} {xs : List Value} (hE : EOk E) (h : Sim E ρ G F M nx w) (hd : denL E ρ vs = some xs) {K : AV → T → Nat → Bool} {R : Ending → World → Prop}
    (h2 : must (Nat.ble (lenL vs) N) (argsX vs 0 .nil fun S => codeX cf lp lf body S M nx fun e S M nx => ifB (Nat.blt 1 e) false (resX res S M fun v => K v M nx)) = true)
    (hr : ∀ v M' nx' E' ρ' w' z, K v M' nx' = true → Rel fl pk E ρ E' ρ' → Sim E' ρ' G F M' nx' w' → den E' ρ' v = some z → R (.returned z) w') : Calls P f xs.toArray w R := by
  unfold chkF at hf
  split at hf
  case h_2 => cases hf
  rename_i N' res' body' fn hx hfn
  cases hx
  split at hf
  case h_2 => cases hf
  rename_i c hb
  obtain ⟨hf, c3⟩ := and2 hf
  obtain ⟨c1, c2⟩ := and2 hf
  have c1 := Nat.eq_of_beq_eq_true c1
  obtain ⟨h3, h4⟩ := must_ok h2
  rw [Nat.ble_eq, lenL_eq] at h3
  have hlen := denL_len hd
  refine calls_of_wp hfn hb ?_
  have hsz : (xs.toArray ++ Array.replicate (fn.ntmps - xs.toArray.size) undef).size = N := by simp; omega
  obtain ⟨S, s, h5⟩ := argsX_ok (a := { tmps := xs.toArray ++ Array.replicate (fn.ntmps - xs.toArray.size) undef, defers := [] }) (N := N) hd (fun i x hi => by
    have hlt := (List.getElem?_eq_some_iff.1 hi).1
    have hv := (List.getElem?_eq_some_iff.1 hi).2
    simp only [Nat.zero_add, Array.getD, hsz]
    rw [dif_pos (by omega)]
    simp [Array.getElem_append, hlt, hv]) (SR.nil hsz rfl) h4
  refine codeX_ok hm hcf body c hE hfl hkp hlp c3 s h h5 fun e S' M' nx' E' ρ' a' w' k1 k2 k3 k4 => ?_
  rcases ifB_ok k1 with ⟨_, g1⟩ | ⟨q, g1⟩
  · cases g1
  · obtain ⟨v, z, r1, r2, r3⟩ := resX_ok k3 k4 c2 g1
    have hR := hr v M' nx' E' ρ' w' z r2 k2 k4 r1
    match e, q with
    | 0, _ => exact ⟨k3.defs, z, r3, hR⟩
    | 1, _ => exact ⟨k3.defs, z, r3, hR⟩
    | n + 2, q =>
      have : Nat.blt 1 (n + 2) = true := by rw [Nat.blt_eq]; omega
      rw [this] at q; cases q
theorem callX_ok (hm : P.follows .mixedOrders = true) {tab : Nat → Option XF} {nat : Nat → List AV → Option ES} {lp : LpF} {lf : Nat} (htab : ∀ f xf, tab f = some xf → chkF P f xf = true ∧ plain (bodyOf xf) = true) (hnat : ∀ f vs k sp, nat f vs = some (.mk k sp) → NatE P f k sp) : ∀ d, CallOk P (callX tab nat lp lf d)
  | 0 => by
    intro f vs M nx K E ρ G F w xs R hE h hd hk hr
    have hk' : (Option.casesOn (nat f vs) false fun es => ES.casesOn es fun k sp => natGo k sp vs M nx K : Bool) = true := hk
    rcases e : nat f vs with _ | ⟨k, sp⟩
    · rw [e] at hk'; cases hk'
    · rw [e] at hk'
      exact natGo_ok (hnat f vs k sp e) hE h hd hk' hr
  | d + 1 => by
    intro f vs M nx K E ρ G F w xs R hE h hd hk hr
    have hk' : (Option.casesOn (nat f vs) (atO (tab f) fun xf => XF.casesOn xf fun N res body =>
      must (Nat.ble (lenL vs) N) (argsX vs 0 .nil fun S => codeX (callX tab nat lp lf d) lp lf body S M nx fun e S M nx => ifB (Nat.blt 1 e) false (resX res S M fun v => K v M nx))) fun es => ES.casesOn es fun k sp => natGo k sp vs M nx K : Bool) = true := hk
    rcases e : nat f vs with _ | ⟨k, sp⟩
    · rw [e] at hk'
      obtain ⟨xf, h1, h2⟩ := atO_ok hk'
      obtain ⟨hf, hp⟩ := htab f xf h1
      obtain ⟨N, res, body⟩ := xf
      have hno : ∀ {x : XC}, plain x = true → lpsOf x = [] := by
        intro x
        induction x with
        | seq x y ihx ihy => intro q; obtain ⟨q1, q2⟩ := and2 (show (plain x && plain y) = true from q); simp [lpsOf, ihx q1, ihy q2]
        | cond p x y ihx ihy => intro q; obtain ⟨q1, q2⟩ := and2 (show (plain x && plain y) = true from q); simp [lpsOf, ihx q1, ihy q2]
        | block k x ih => exact fun q => ih q
        | loop l x ih => exact fun q => ih q
        | inv => intro q; cases q
        | aft => intro q; cases q
        | pre => intro q; cases q
        | spc => intro q; cases q
        | _ => intro _; rfl
      have hk0 : ∀ {x : XC}, plain x = true → keepB 0 x = true := by
        intro x
        induction x with
        | seq x y ihx ihy => intro q; obtain ⟨q1, q2⟩ := and2 (show (plain x && plain y) = true from q); simp [keepB, ihx q1, ihy q2]
        | cond p x y ihx ihy => intro q; obtain ⟨q1, q2⟩ := and2 (show (plain x && plain y) = true from q); simp [keepB, ihx q1, ihy q2]
        | block k x ih => exact fun q => ih q
        | loop l x ih => exact fun q => ih q
        | inv => intro q; cases q
        | aft => intro q; cases q
        | pre => intro q; cases q
        | spc => intro q; cases q
        | _ => intro _; rfl
      exact run_fun (fl := true) (pk := 0) hm (callX_ok hm htab hnat d) hf (fun _ => hp) (hk0 hp) (fun b j x q => by rw [hno (x := body) hp] at q; cases q) hE h hd h2 fun v M' nx' E' ρ' w' z q1 q2 => hr v M' nx' E' ρ' w' z q1 (q2.ext rfl)
    · rw [e] at hk'
      exact natGo_ok (hnat f vs k sp e) hE h hd hk' hr
theorem natE_of (hm : P.follows .mixedOrders = true) {cf : CallF} (hcf : CallOk P cf) {lp : LpF} {lf f k : Nat} {xf : XF} {sp : SpecE} (hf : chkF P f xf = true) (hkp : keepB k (bodyOf xf) = true) (hlp : ∀ b j x, (b, j, x) ∈ lpsOf (bodyOf xf) → LpOk P (nOf xf) k lp b j x) (hrun : ∀ us M nx K, sp us M nx K = true → funE k cf lp lf xf us M nx K = true) : NatE P f k sp := by
  intro us xs E ρ G F M nx w K R hE hs hd hk hr
  obtain ⟨N, res, body⟩ := xf
  refine run_fun (fl := false) (pk := k) (K := fun v M _ => canV k v M K) (G := G) hm hcf hf (fun q => by cases q) hkp hlp hE hs hd (hrun us M nx K hk) fun v M' nx' E' ρ' w' z q1 q2 q3 q4 => ?_
  obtain ⟨v2, M2, n2, ρ2, f1, f2, f3, f4⟩ := canV_ok q3 q4 q1
  exact hr v2 M2 n2 E' ρ2 w' z f3 q2.one q2.mem (fun i e i1 i2 => f4 i e i1 (q2.pin i e i1 i2)) f1 f2
theorem lp_of (hm : P.follows .mixedOrders = true) {cf : CallF} (hcf : CallOk P cf) {lp : LpF} {lf j : Nat} {x : XC} (hkp : keepB pk x = true) {α : Type _} (I : α → SL × T × Nat) (μ : α → Nat) (spec : α → KC → Bool) (hlp : ∀ b j' x', (b, j', x') ∈ lpsOf x → LpOk P N pk lp b j' x')
    (hj : ∀ S M nx K, lp j S M nx K = true → ∃ p, (S, M, nx) = I p ∧ spec p K = true)
    (hbody : ∀ p K, spec p K = true → codeX cf lp lf x (I p).1 (I p).2.1 (I p).2.2 (fun e S M nx => Nat.casesOn e (exB fun p' => must (prB ((S, M, nx) = I p' ∧ μ p' < μ p)) (spec p' K)) (fun e' => K (Nat.succ e') S M nx)) = true) : LpOk P N pk lp true j x := by
  intro c S M nx E ρ G F a w K Q hE hc s h hk hq
  obtain ⟨p, hp, hs⟩ := hj S M nx K hk
  have key : ∀ (n : Nat) (p : α), μ p < n → ∀ {S : SL} {M : T} {nx : Nat} {E : Env} {ρ : Ren} {a : Act} {w : World}, (S, M, nx) = I p → spec p K = true → EOk E → SR E ρ N S a → Sim E ρ G F M nx w →
      (∀ e S' M' nx' E' ρ' a' w', K e S' M' nx' = true → Rel false pk E ρ E' ρ' → SR E' ρ' N S' a' → Sim E' ρ' G F M' nx' w' → Q (exOf e) a' w') → Code.rounds P c Q n a w := by
    intro n
    induction n with
    | zero => intro p hn; omega
    | succ n ih =>
      intro p hn S M nx E ρ a w hI hs hE s h hq
      have hb := hbody p K hs
      rw [← hI] at hb
      refine codeX_ok (fl := false) hm hcf x c hE (fun q => by cases q) hkp hlp hc s h hb fun e S' M' nx' E' ρ' a' w' k1 k2 k3 k4 => ?_
      match e, k1 with
      | 0, k1 =>
        obtain ⟨p', k5⟩ := exB_ok k1
        obtain ⟨⟨k6, k7⟩, k8⟩ := mustP_ok k5
        exact ih p' (by omega) k6 k8 k2.one k3 k4 fun e S2 M2 nx2 E2 ρ2 a2 w2 j1 j2 => hq e _ _ _ _ _ _ _ j1 (k2.trans j2)
      | 1, k1 => exact hq 1 _ _ _ _ _ _ _ k1 k2 k3 k4
      | m + 2, k1 => exact hq (m + 2) _ _ _ _ _ _ _ k1 k2 k3 k4
  exact wp_loop_rounds (μ p + 1) (key (μ p + 1) p (Nat.lt_succ_self _) hp hs hE s h hq)
theorem sp_of (hm : P.follows .mixedOrders = true) {cf : CallF} (hcf : CallOk P cf) {lp : LpF} {lf j : Nat} {x : XC} (hkp : keepB pk x = true) (hlp : ∀ b j' x', (b, j', x') ∈ lpsOf x → LpOk P N pk lp b j' x') (hrun : ∀ S M nx K, lp j S M nx K = true → codeX cf lp lf x S M nx K = true) : LpOk P N pk lp false j x := by
  intro c S M nx E ρ G F a w K Q hE hc s h hk hq
  exact codeX_ok (fl := false) hm hcf x c hE (fun q => by cases q) hkp hlp hc s h (hrun S M nx K hk) hq
end
noncomputable def shp (v : AV) : Nat := AV.casesOn v 0 (fun _ _ => 1) (fun _ => 2) (fun _ => 3) (fun _ _ => 4) (fun _ _ _ _ => 5) (fun _ => 6) 7 8 9 10 11 (fun _ _ => 12) (fun _ _ => 13) (fun _ => 14) (fun _ => 15) (fun _ => 16) (fun _ => 17) (fun s => SY.casesOn s (fun _ _ => 20) (fun _ => 21) (fun _ => 22) (fun _ _ _ _ _ => 23) (fun _ _ _ => 24) (fun _ _ => 25) (fun _ _ _ _ => 26) (fun _ _ _ _ => 27) (fun _ _ _ => 28) (fun _ => 29))
noncomputable def shpN (vs : List AV) (n : Nat) : Nat := Option.casesOn (nth vs n) 0 shp
noncomputable def hasL (vs : List AV) (l : List (Nat × Nat)) : Bool := List.rec true (fun p _ ih => Bool.rec false ih (Nat.beq (shpN vs p.1) p.2)) l
noncomputable def hasS (f g : Nat) (vs : List AV) (l : List (Nat × Nat)) : Bool := Bool.rec false (hasL vs l) (Nat.beq f g)
theorem nat_step {P : Program} {f g k k0 : Nat} {vs : List AV} {sp sp0 : SpecE} {rest : Option ES} {l : List (Nat × Nat)} (h0 : NatE P g k0 sp0) (hr : rest = some (.mk k sp) → NatE P f k sp) (h : (Bool.rec rest (some (ES.mk k0 sp0)) (hasS f g vs l) : Option ES) = some (.mk k sp)) : NatE P f k sp := by
  cases hb : hasS f g vs l with
  | false => rw [hb] at h; exact hr h
  | true =>
    rw [hb] at h
    cases h
    unfold hasS at hb
    cases he : Nat.beq f g with
    | false => rw [he] at hb; cases hb
    | true => rw [Nat.eq_of_beq_eq_true he]; exact h0
theorem mem_step {P : Program} {N k : Nat} {lp : LpF} {b b0 : Bool} {j j0 : Nat} {x x0 : XC} {l : List (Bool × Nat × XC)} (h0 : LpOk P N k lp b0 j0 x0) (hr : (b, j, x) ∈ l → LpOk P N k lp b j x) (h : (b, j, x) ∈ (b0, j0, x0) :: l) : LpOk P N k lp b j x := by
  rcases List.mem_cons.1 h with e | h
  · injection e with e1 e2
    injection e2 with e3 e4
    subst e1; subst e3; subst e4
    exact h0
  · exact hr h
theorem ifB_use {p : Prop} {x y : Bool} (hp : p) (h : ifB (prB p) x y = true) : x = true := by
  rcases ifP_ok h with ⟨_, h⟩ | ⟨q, _⟩
  · exact h
  · exact absurd hp q
def BuildD (T b : Nat) (l : List UInt8) (c : Chunk) : Prop := ∃ p ao cap cr, (p = .pointer none ∨ p = .pointer (some ⟨b, 0, none⟩)) ∧ Row 5 1 ao l.length cap (l.map u8) cr ∧ c = (b, .cells #[p, .slice ao l.length cap] T (0, 0)) :: cr
def BuildS (T b : Nat) (l : List UInt8) (c : Chunk) : Prop := ∃ p ao cap cr, p = .pointer (some ⟨b, 0, none⟩) ∧ Row 5 1 ao l.length cap (l.map u8) cr ∧ c = (b, .cells #[p, .slice ao l.length cap] T (0, 0)) :: cr
theorem BuildS.d {T b : Nat} {l : List UInt8} {c : Chunk} : BuildS T b l c → BuildD T b l c := fun ⟨p, ao, cap, cr, h1, h2⟩ => ⟨p, ao, cap, cr, .inr h1, h2⟩
end Go.Sy
namespace Go.Eng
open Go Go.RowKit
section
variable {G : GS} {w : World} {F : List Chunk} {c : Chunk}
end
end Go.Eng
namespace Go.Sy
open Go Go.RowKit Go.Eng
section
variable {P : Program} {E : Env} {ρ : Ren} {G : GS} {F : List Chunk} {M : T} {nx : Nat} {w : World}
noncomputable def zA (k : Nat) (v : AV) (K : Int → Bool) : Bool := match v with
  | .int j z => must (Nat.beq j k) (K z)
  | .sy (.int j z) => must (Nat.beq j k) (K z)
  | _ => false
theorem zA_ok {k : Nat} {v : AV} {K : Int → Bool} (h : zA k v K = true) : ∃ z, (∀ x, den E ρ v = some x → x = .int (kOf k) z) ∧ K z = true := by
  unfold zA at h
  split at h
  · obtain ⟨h1, h2⟩ := must_ok h
    have := Nat.eq_of_beq_eq_true h1
    subst this
    exact ⟨_, fun x hx => by simpa [den] using hx.symm, h2⟩
  · obtain ⟨h1, h2⟩ := must_ok h
    have := Nat.eq_of_beq_eq_true h1
    subst this
    exact ⟨_, fun x hx => by simpa [den, denS] using hx.symm, h2⟩
  · cases h
noncomputable def sA (v : AV) (K : List UInt8 → Bool) : Bool := match v with
  | .str l => K (l.map UInt8.ofNat)
  | .sy (.str l) => K l
  | _ => false
end
end Go.Sy
namespace Go.Proofs.Try
open Go Go.RowKit Go.Eng Go.Sy
set_option maxRecDepth 100000
def p_ (i d : Nat) (x : XO) : XSt := .p i (some d) none x
def pg_ (i d t : Nat) (b : Bool) (x : XO) : XSt := .p i (some d) (some (t, b)) x
def r_ (i d : Nat) (x : XO) : XSt := .r i (some d) none x
def rg_ (i d t : Nat) (b : Bool) (x : XO) : XSt := .r i (some d) (some (t, b)) x
def e_ (i d : Nat) (x : XO) : XSt := .e i (some d) none x
def e0_ (i : Nat) (x : XO) : XSt := .e i none none x
def c_ (i d f : Nat) (xs : List XP) : XSt := .c i (some d) none f xs
def cg_ (i d t : Nat) (b : Bool) (f : Nat) (xs : List XP) : XSt := .c i (some d) (some (t, b)) f xs
def a_ (i d : Nat) (x : XO) : XSt := .a i d none x
def m_ (n : Nat) : XO := .mv (.t n)
def n_ (n : Nat) : XO := .nck (.t n)
def f_ (k n : Nat) : XO := .fa k (.t n)
def l_ (n : Nat) : XO := .ld false 1 (.t n)
def k_ (n : Nat) : XO := .len 1 (.t n)
def i_ (n : Nat) : XP := .c (.int 0 (.ofNat n))
def o_ (n : Nat) : AV := .int 0 (.ofNat n)
def g_ (n : Nat) (l : List XSt) : XC := .reg false n (.leaf l)
def h_ (n : Nat) (l : List XSt) : XC := .reg true n (.leaf l)
def tc_Good (f : Nat) (x : XF) : Prop := chkF Try.prog f x = true ∧ plain (bodyOf x) = true
def tc5 : XF := .mk 25 (.one 8) (.seq (g_ 2 [e_ 0 4 (.box 28 (.t 0)), p_ 1 8 (.mv (.c .nilP))]) (.seq (g_ 6 [r_ 0 10 (.ld true 2 (.t 4)), p_ 1 11 (m_ 1), p_ 2 12 (m_ 2), p_ 3 13 (m_ 3), c_ 4 14 13 [(.t 10), (.t 11), (.t 12), (.t 13)], p_ 5 9 (m_ 14)]) (.seq (.seq (g_ 2 [p_ 0 15 (m_ 9), p_ 1 16 (.isn false 1 (.t 15))]) (.cond (.t 16) (.seq (g_ 1 [p_ 0 8 (.mv (.c .nilP))]) .ret) .skip)) (.seq (g_ 9 [p_ 0 17 (m_ 9), p_ 1 18 (.bld [.nilP] [(0, 1)] [.t 17]), p_ 2 19 (m_ 2), p_ 3 20 (.mx true (.t 19) (i_ 1)), p_ 4 21 (m_ 3), p_ 5 22 (.mx true (.t 21) (i_ 1)), p_ 6 23 (.bld [.nilP, (o_ 0), (o_ 0), .nilS, .nilS, .nilS, .nilS, .nilS] [(0, 1), (1, 1), (2, 1)] [(.t 18), (.t 20), (.t 22)]), e_ 7 24 (.box 68 (.t 23)), p_ 8 8 (m_ 24)]) .ret))))
theorem tc5_g : tc_Good 5 tc5 := ⟨by kernel_rfl, by kernel_rfl⟩
def tc6 : XF := .mk 6 (.cell 2 true 2) (.seq (g_ 1 [e_ 0 2 (.al 28 [(.int 1 (.ofNat 0)), (.int 2 (.ofNat 0))])]) (.seq (g_ 4 [p_ 0 3 (m_ 0), p_ 1 4 (.cnv 1 (.t 3)), p_ 2 5 (.bld [(.int 1 (.ofNat 0)), (.int 2 (.ofNat 0))] [(0, 1), (1, 1)] [(.t 4), (.c (.int 2 (.ofNat 1)))]), e0_ 3 (.st 2 (.t 2) (.t 5))]) .ret))
theorem tc6_g : tc_Good 6 tc6 := ⟨by kernel_rfl, by kernel_rfl⟩
def tc7 : XF := .mk 27 .none (.seq (.seq (g_ 6 [p_ 0 6 (m_ 0), c_ 1 7 14 [.t 6], p_ 2 8 (m_ 7), pg_ 3 9 8 false (m_ 1), pg_ 4 10 8 false (.bin 3 3 (.t 9) (.c (.int 1 (.ofNat 4)))), p_ 5 11 (.pick (.t 8) (.c (.bool true)) (.t 10))]) (.cond (.t 11) .ret .skip)) (.seq (h_ 8 [p_ 0 12 (m_ 0), p_ 1 13 (m_ 1), p_ 2 14 (m_ 2), p_ 4 16 (n_ 12), p_ 5 17 (f_ 4 16), c_ 3 15 15 [.t 14], p_ 6 18 (.ixa 4 1 (.t 17) (.t 13)), e0_ 7 (.st 1 (.t 18) (.t 15))]) (g_ 8 [p_ 0 19 (m_ 0), p_ 1 20 (n_ 19), p_ 2 21 (f_ 0 20), p_ 3 22 (f_ 0 21), r_ 4 23 (l_ 22), p_ 5 24 (m_ 1), p_ 6 25 (m_ 2), c_ 7 26 16 [(.t 23), (.t 24), (.t 25)]])))
theorem tc7_g : tc_Good 7 tc7 := ⟨by kernel_rfl, by kernel_rfl⟩
def tc8 : XF := .mk 4 (.one 2) (.seq (g_ 1 [p_ 0 2 (.mv (i_ 0))]) (.seq (g_ 2 [p_ 0 3 (m_ 0), p_ 1 2 (m_ 3)]) .ret))
theorem tc8_g : tc_Good 8 tc8 := ⟨by kernel_rfl, by kernel_rfl⟩
def tc9 : XF := .mk 41 (.one 6) (.seq (g_ 2 [e_ 0 5 (.box 28 (.t 2)), p_ 1 6 (.mv (i_ 0))]) (.seq (.block 2 (.seq (g_ 8 [p_ 0 8 (m_ 0), c_ 1 9 14 [.t 8], p_ 2 10 (m_ 9), rg_ 3 11 10 false (.ld true 2 (.t 5)), cg_ 4 12 10 false 17 [.t 11], pg_ 5 13 10 false (.un 0 (.t 12)), p_ 6 14 (.pick (.t 10) (.c (.bool true)) (.t 13)), p_ 7 7 (m_ 14)]) (.cond (.t 7) (.seq (g_ 1 [p_ 0 6 (.mv (i_ 1))]) .ret) (.seq (g_ 7 [p_ 0 16 (m_ 0), p_ 1 17 (n_ 16), p_ 2 18 (f_ 3 17), r_ 3 19 (l_ 18), p_ 4 20 (.mkf 19 [.t 5]), c_ 5 21 18 [(.t 19), (.t 20)], p_ 6 15 (m_ 21)]) (.cond (.t 15) (.seq (g_ 1 [p_ 0 6 (.mv (i_ 4))]) .ret) (.seq (g_ 7 [p_ 0 23 (m_ 0), p_ 1 24 (n_ 23), p_ 2 25 (f_ 3 24), r_ 3 26 (l_ 25), p_ 4 27 (k_ 26), p_ 5 28 (.bin 3 3 (.t 27) (i_ 16)), p_ 6 22 (m_ 28)]) (.cond (.t 22) (.seq (g_ 1 [p_ 0 6 (.mv (i_ 11))]) .ret) .skip))))))) (.seq (h_ 13 [p_ 0 29 (m_ 0), p_ 1 30 (m_ 0), p_ 2 31 (n_ 30), p_ 3 32 (f_ 3 31), r_ 4 33 (l_ 32), r_ 5 34 (.ld true 2 (.t 5)), p_ 6 35 (m_ 1), p_ 7 36 (.bld [(.int 1 (.ofNat 0)), (.int 2 (.ofNat 0)), (o_ 0), (.bool false), (o_ 0)] [(0, 2), (2, 1)] [(.t 34), (.t 35)]), e_ 8 37 (.bsl 72 5 1 [(.int 1 (.ofNat 0)), (.int 2 (.ofNat 0)), (o_ 0), (.bool false), (o_ 0)] [(0, 5)] [.t 36]), a_ 4 33 (l_ 32), e_ 9 38 (.app 72 5 32 (.t 33) (.t 37)), p_ 10 39 (n_ 29), p_ 11 40 (f_ 3 39), e0_ 12 (.st 1 (.t 40) (.t 38))]) (.seq (g_ 1 [p_ 0 6 (.mv (i_ 0))]) .ret))))
theorem tc9_g : tc_Good 9 tc9 := ⟨by kernel_rfl, by kernel_rfl⟩
def tc10 : XF := .mk 62 (.one 4) (.seq (g_ 3 [e_ 0 2 (.box 24 (.t 0)), e_ 1 3 (.box 3 (.t 1)), p_ 2 4 (.mv (.c .nilS))]) (.seq (.seq (g_ 2 [r_ 0 9 (l_ 2), c_ 1 10 14 [.t 9]]) (.cond (.t 10) (.seq (g_ 1 [p_ 0 4 (.mv (.c .nilS))]) .ret) .skip)) (.seq (g_ 1 [p_ 0 5 (.mv (.c .nilS))]) (.seq (.seq (h_ 9 [r_ 0 11 (l_ 2), p_ 1 12 (n_ 11), p_ 2 13 (f_ 0 12), p_ 3 14 (f_ 0 13), r_ 4 15 (l_ 14), r_ 5 16 (l_ 3), p_ 8 19 (.mv (i_ 0)), c_ 6 17 20 [(.t 15), (.t 16)], p_ 7 18 (k_ 17)]) (.block 2 (.loop [2, 3, 4, 5, 7, 8, 17, 18, 19, 20, 21, 22, 23, 24, 25, 26, 27, 28, 29, 30, 31, 32, 33, 34, 35, 36, 37, 38, 39, 40, 41, 42, 43, 44, 45, 46, 47, 48, 49, 50, 51, 52, 53, 54, 55, 56, 57, 58, 59, 60, 61] (.seq (g_ 1 [p_ 0 20 (.bin 3 0 (.t 19) (.t 18))]) (.seq (.cond (.t 20) .skip (.exit 2)) (.seq (.block 3 (.seq (g_ 4 [p_ 0 21 (.ixs 33 (.t 17) (.t 19)), r_ 1 22 (.ld true 33 (.t 21)), e_ 2 7 (.al 76 [(.int 1 (.ofNat 0)), (.int 2 (.ofNat 0)), (.int 1 (.ofNat 0)), (.int 1 (.ofNat 0)), (.int 1 (.ofNat 0)), (.int 3 (.ofNat 0)), (.int 3 (.ofNat 0)), (.int 3 (.ofNat 0)), (.int 3 (.ofNat 0)), (.int 4 (.ofNat 0)), (.int 4 (.ofNat 0)), (.int 1 (.ofNat 0)), (.int 2 (.ofNat 0)), (.int 3 (.ofNat 0)), (.int 1 (.ofNat 0)), (.int 1 (.ofNat 0)), (.int 1 (.ofNat 0)), (.int 1 (.ofNat 0)), (.int 1 (.ofNat 0)), (.int 1 (.ofNat 0)), (.int 1 (.ofNat 0)), .nilS, (.int 1 (.ofNat 0)), (.str []), (.int 1 (.ofNat 0)), (.int 3 (.ofNat 0)), .nilS, (.int 1 (.ofNat 0)), (.int 2 (.ofNat 0)), (.bool false), .nilS, .nilS, .nilS]), e0_ 3 (.st 33 (.t 7) (.t 22))]) (g_ 9 [p_ 0 23 (m_ 5), p_ 1 24 (f_ 0 7), r_ 2 25 (.ld true 2 (.t 24)), p_ 3 26 (f_ 2 7), r_ 4 27 (.ld true 31 (.t 26)), p_ 5 28 (.bld [(.int 1 (.ofNat 0)), (.int 2 (.ofNat 0)), (.int 1 (.ofNat 0)), (.int 1 (.ofNat 0)), (.int 1 (.ofNat 0)), (.int 3 (.ofNat 0)), (.int 3 (.ofNat 0)), (.int 3 (.ofNat 0)), (.int 3 (.ofNat 0)), (.int 4 (.ofNat 0)), (.int 4 (.ofNat 0)), (.int 1 (.ofNat 0)), (.int 2 (.ofNat 0)), (.int 3 (.ofNat 0)), (.int 1 (.ofNat 0)), (.int 1 (.ofNat 0)), (.int 1 (.ofNat 0)), (.int 1 (.ofNat 0)), (.int 1 (.ofNat 0)), (.int 1 (.ofNat 0)), (.int 1 (.ofNat 0)), .nilS, (.int 1 (.ofNat 0)), (.str []), (.int 1 (.ofNat 0)), (.int 3 (.ofNat 0)), .nilS, (.int 1 (.ofNat 0)), (.int 2 (.ofNat 0)), (.bool false), .nilS, .nilS, .nilS] [(0, 2), (2, 31)] [(.t 25), (.t 27)]), e_ 6 29 (.bsl 60 33 1 [(.int 1 (.ofNat 0)), (.int 2 (.ofNat 0)), (.int 1 (.ofNat 0)), (.int 1 (.ofNat 0)), (.int 1 (.ofNat 0)), (.int 3 (.ofNat 0)), (.int 3 (.ofNat 0)), (.int 3 (.ofNat 0)), (.int 3 (.ofNat 0)), (.int 4 (.ofNat 0)), (.int 4 (.ofNat 0)), (.int 1 (.ofNat 0)), (.int 2 (.ofNat 0)), (.int 3 (.ofNat 0)), (.int 1 (.ofNat 0)), (.int 1 (.ofNat 0)), (.int 1 (.ofNat 0)), (.int 1 (.ofNat 0)), (.int 1 (.ofNat 0)), (.int 1 (.ofNat 0)), (.int 1 (.ofNat 0)), .nilS, (.int 1 (.ofNat 0)), (.str []), (.int 1 (.ofNat 0)), (.int 3 (.ofNat 0)), .nilS, (.int 1 (.ofNat 0)), (.int 2 (.ofNat 0)), (.bool false), .nilS, .nilS, .nilS] [(0, 33)] [.t 28]), e_ 7 30 (.app 60 33 224 (.t 23) (.t 29)), p_ 8 5 (m_ 30)]))) (g_ 2 [p_ 0 31 (.bin 0 0 (.t 19) (i_ 1)), p_ 1 19 (m_ 31)]))))))) (.seq (h_ 10 [r_ 0 32 (l_ 2), r_ 1 33 (l_ 2), p_ 2 34 (n_ 33), p_ 3 35 (f_ 3 34), r_ 4 36 (l_ 35), p_ 5 37 (.mkf 22 [(.t 3), (.t 2)]), c_ 6 38 21 [(.t 36), (.t 37)], a_ 0 32 (l_ 2), p_ 7 39 (n_ 32), p_ 8 40 (f_ 3 39), e0_ 9 (.st 1 (.t 40) (.t 38))]) (.seq (.seq (g_ 6 [r_ 0 41 (l_ 2), p_ 1 42 (n_ 41), p_ 2 43 (f_ 3 42), r_ 3 44 (l_ 43), p_ 4 45 (k_ 44), p_ 5 46 (.mv (i_ 0))]) (.block 4 (.loop [2, 3, 4, 5, 8, 45, 46, 47, 48, 49, 50, 51, 52, 53, 54, 55, 56, 57, 58, 59, 60, 61] (.seq (g_ 1 [p_ 0 47 (.bin 3 0 (.t 46) (.t 45))]) (.seq (.cond (.t 47) .skip (.exit 4)) (.seq (.block 5 (.seq (g_ 2 [p_ 0 48 (m_ 46), p_ 1 8 (m_ 48)]) (h_ 12 [p_ 0 49 (m_ 5), r_ 1 50 (l_ 2), r_ 2 51 (l_ 2), p_ 3 52 (n_ 51), p_ 4 53 (f_ 3 52), r_ 5 54 (l_ 53), p_ 6 55 (m_ 8), p_ 7 56 (.ixs 5 (.t 54) (.t 55)), r_ 8 57 (l_ 3), c_ 9 58 24 [(.t 50), (.t 56), (.t 57)], e_ 10 59 (.app 60 33 224 (.t 49) (.t 58)), p_ 11 5 (m_ 59)]))) (g_ 2 [p_ 0 60 (.bin 0 0 (.t 46) (i_ 1)), p_ 1 46 (m_ 60)]))))))) (.seq (g_ 2 [p_ 0 61 (m_ 5), p_ 1 4 (m_ 61)]) .ret)))))))
theorem tc10_g : tc_Good 10 tc10 := ⟨by kernel_rfl, by kernel_rfl⟩
def tc11 : XF := .mk 24 (.one 2) (.seq (g_ 1 [p_ 0 2 (.mv (.c .nilS))]) (.seq (.seq (g_ 2 [p_ 0 6 (m_ 0), c_ 1 7 14 [.t 6]]) (.cond (.t 7) (.seq (g_ 1 [p_ 0 2 (.mv (.c .nilS))]) .ret) .skip)) (.seq (g_ 1 [p_ 0 3 (.mv (.c .nilS))]) (.seq (.seq (g_ 6 [p_ 0 8 (m_ 0), p_ 1 9 (n_ 8), p_ 2 10 (f_ 3 9), r_ 3 11 (l_ 10), p_ 4 12 (k_ 11), p_ 5 13 (.mv (i_ 0))]) (.block 2 (.loop [2, 3, 5, 11, 12, 13, 14, 15, 16, 17, 18, 19, 20, 21, 22, 23] (.seq (g_ 1 [p_ 0 14 (.bin 3 0 (.t 13) (.t 12))]) (.seq (.cond (.t 14) .skip (.exit 2)) (.seq (.block 3 (.seq (g_ 4 [p_ 0 15 (.ixs 5 (.t 11) (.t 13)), r_ 1 16 (.ld true 5 (.t 15)), e_ 2 5 (.al 72 [(.int 1 (.ofNat 0)), (.int 2 (.ofNat 0)), (o_ 0), (.bool false), (o_ 0)]), e0_ 3 (.st 5 (.t 5) (.t 16))]) (g_ 6 [p_ 0 17 (m_ 3), p_ 1 18 (f_ 0 5), r_ 2 19 (.ld true 2 (.t 18)), e_ 3 20 (.bsl 28 2 1 [(.int 1 (.ofNat 0)), (.int 2 (.ofNat 0))] [(0, 2)] [.t 19]), e_ 4 21 (.app 28 2 4 (.t 17) (.t 20)), p_ 5 3 (m_ 21)]))) (g_ 2 [p_ 0 22 (.bin 0 0 (.t 13) (i_ 1)), p_ 1 13 (m_ 22)]))))))) (.seq (g_ 2 [p_ 0 23 (m_ 3), p_ 1 2 (m_ 23)]) .ret)))))
theorem tc11_g : tc_Good 11 tc11 := ⟨by kernel_rfl, by kernel_rfl⟩
def tc12 : XF := .mk 21 (.ct 10 true 10 11) (.seq (g_ 2 [e_ 0 10 (.al 45 [(.int 1 (.ofNat 0)), (.int 2 (.ofNat 0)), (.int 3 (.ofNat 0)), (.int 1 (.ofNat 0)), (.int 1 (.ofNat 0)), (.int 1 (.ofNat 0)), (.int 1 (.ofNat 0)), (.int 1 (.ofNat 0)), (.int 1 (.ofNat 0)), (.int 1 (.ofNat 0))]), p_ 1 11 (.mv (i_ 0))]) (.seq (g_ 11 [p_ 0 12 (m_ 0), c_ 1 13 25 [.t 12], p_ 2 14 (m_ 1), p_ 3 15 (m_ 2), p_ 4 16 (m_ 3), p_ 5 17 (m_ 4), c_ 6 18 26 [(.t 13), (.t 14), (.t 15), (.t 16), (.t 17)], p_ 7 19 (.ext 0 (.t 18)), p_ 8 20 (.ext 1 (.t 18)), e0_ 9 (.st 10 (.t 10) (.t 19)), p_ 10 11 (m_ 20)]) .ret))
theorem tc12_g : tc_Good 12 tc12 := ⟨by kernel_rfl, by kernel_rfl⟩
def tc13 : XF := .mk 23 (.one 8) (.seq (g_ 2 [e_ 0 4 (.box 28 (.t 0)), p_ 1 8 (.mv (.c .nilP))]) (.seq (.seq (g_ 3 [r_ 0 9 (.ld true 2 (.t 4)), c_ 1 10 17 [.t 9], p_ 2 11 (.un 0 (.t 10))]) (.cond (.t 11) (.seq (g_ 1 [p_ 0 8 (.mv (.c .nilP))]) .ret) .skip)) (.seq (g_ 12 [r_ 0 12 (.ld true 2 (.t 4)), p_ 1 13 (m_ 1), p_ 2 14 (.mx true (.t 13) (i_ 1)), p_ 3 15 (.mx false (.t 14) (i_ 16)), p_ 4 16 (m_ 2), p_ 5 17 (.mx true (.t 16) (i_ 1)), p_ 6 18 (m_ 3), p_ 7 19 (.mx true (.t 18) (i_ 1)), e_ 8 20 .mkm, p_ 9 21 (.bld [(.int 1 (.ofNat 0)), (.int 2 (.ofNat 0)), (o_ 0), (o_ 0), (o_ 0), (.int 3 (.ofNat 0)), .nilM, .nilS, .nilS, .nilS, .nilS, .nilS] [(0, 2), (2, 1), (3, 1), (4, 1), (5, 1), (6, 1)] [(.t 12), (.t 15), (.t 17), (.t 19), (.c (.int 3 (.ofNat 1))), (.t 20)]), e_ 10 22 (.box 85 (.t 21)), p_ 11 8 (m_ 22)]) .ret)))
theorem tc13_g : tc_Good 13 tc13 := ⟨by kernel_rfl, by kernel_rfl⟩
def tc14 : XF := .mk 6 (.one 2) (.seq (g_ 1 [p_ 0 2 (.mv (.c (.bool false)))]) (.seq (g_ 4 [p_ 0 3 (m_ 0), c_ 1 4 25 [.t 3], p_ 2 5 (.isn false 1 (.t 4)), p_ 3 2 (m_ 5)]) .ret))
theorem tc14_g : tc_Good 14 tc14 := ⟨by kernel_rfl, by kernel_rfl⟩
def tc15 : XF := .mk 8 (.one 2) (.seq (g_ 1 [p_ 0 2 (.mv (.c .nilS))]) (.seq (.seq (g_ 2 [p_ 0 3 (m_ 0), p_ 1 4 (.isn false 2 (.t 3))]) (.cond (.t 4) (.seq (g_ 1 [p_ 0 2 (.mv (.c .nilS))]) .ret) .skip)) (.seq (g_ 4 [e_ 0 5 (.bsl 28 2 0 [] [] []), p_ 1 6 (m_ 0), e_ 2 7 (.app 28 2 4 (.t 5) (.t 6)), p_ 3 2 (m_ 7)]) .ret)))
theorem tc15_g : tc_Good 15 tc15 := ⟨by kernel_rfl, by kernel_rfl⟩
def tc16 : XF := .mk 20 .none (.seq (g_ 7 [p_ 0 6 (m_ 0), c_ 1 7 27 [.t 6], p_ 2 8 (.un 0 (.t 7)), p_ 3 9 (m_ 8), pg_ 4 10 9 true (m_ 1), pg_ 5 11 9 true (.bin 3 0 (.t 10) (.c (.int 1 (.ofNat 4)))), p_ 6 12 (.pick (.t 9) (.t 11) (.c (.bool false)))]) (.cond (.t 12) (h_ 8 [p_ 0 13 (m_ 0), p_ 1 14 (m_ 1), p_ 2 15 (m_ 2), p_ 4 17 (n_ 13), p_ 5 18 (f_ 7 17), c_ 3 16 15 [.t 15], p_ 6 19 (.ixa 4 1 (.t 18) (.t 14)), e0_ 7 (.st 1 (.t 19) (.t 16))]) .skip))
theorem tc16_g : tc_Good 16 tc16 := ⟨by kernel_rfl, by kernel_rfl⟩
def tc17 : XF := .mk 11 (.one 2) (.seq (g_ 2 [e_ 0 1 (.box 28 (.t 0)), p_ 1 2 (.mv (.c (.bool false)))]) (.seq (g_ 9 [p_ 0 3 (f_ 0 1), r_ 1 4 (l_ 3), p_ 2 5 (.bin 3 0 (.t 4) (.c (.int 1 (.ofNat 16)))), p_ 3 6 (m_ 5), pg_ 4 7 6 true (f_ 1 1), rg_ 5 8 6 true (l_ 7), pg_ 6 9 6 true (.bin 3 2 (.t 8) (.c (.int 2 (.ofNat 0)))), p_ 7 10 (.pick (.t 6) (.t 9) (.c (.bool false))), p_ 8 2 (m_ 10)]) .ret))
theorem tc17_g : tc_Good 17 tc17 := ⟨by kernel_rfl, by kernel_rfl⟩
def tc18 : XF := .mk 9 (.one 4) (.seq (g_ 1 [p_ 0 4 (.mv (.c (.bool false)))]) (.seq (g_ 5 [p_ 0 5 (m_ 0), p_ 1 6 (m_ 1), c_ 2 7 28 [(.t 5), (.t 6)], p_ 3 8 (.bin 3 3 (.t 7) (i_ 0)), p_ 4 4 (m_ 8)]) .ret))
theorem tc18_g : tc_Good 18 tc18 := ⟨by kernel_rfl, by kernel_rfl⟩
def tc19 : XF := .mk 8 (.one 3) (.seq (g_ 2 [e_ 0 2 (.box 72 (.t 0)), p_ 1 3 (.mv (.c (.bool false)))]) (.seq (g_ 5 [p_ 0 4 (f_ 0 2), r_ 1 5 (.ld true 2 (.t 4)), r_ 2 6 (.ld true 2 (.t 1)), p_ 3 7 (.eqs false 2 (.st [(0, 1, false, .int), (1, 1, false, .int)]) (.t 5) (.t 6)), p_ 4 3 (m_ 7)]) .ret))
theorem tc19_g : tc_Good 19 tc19 := ⟨by kernel_rfl, by kernel_rfl⟩
def tc20 : XF := .mk 71 (.one 4) (.seq (g_ 1 [p_ 0 4 (.mv (.c .nilS))]) (.seq (.seq (g_ 2 [p_ 0 10 (m_ 0), c_ 1 11 27 [.t 10]]) (.cond (.t 11) (.seq (g_ 1 [p_ 0 4 (.mv (.c .nilS))]) .ret) .skip)) (.seq (g_ 1 [p_ 0 5 (.mv (.c .nilS))]) (.seq (g_ 3 [p_ 0 12 (m_ 0), c_ 1 13 29 [.t 12], p_ 2 6 (m_ 13)]) (.seq (.seq (g_ 4 [p_ 0 14 (m_ 0), c_ 1 15 30 [.t 14], p_ 2 16 (k_ 15), p_ 3 17 (.mv (i_ 0))]) (.block 2 (.loop [0, 1, 4, 5, 6, 8, 9, 15, 16, 17, 18, 19, 20, 21, 22, 23, 24, 25, 26, 27, 28, 29, 30, 31, 32, 33, 34, 35, 36, 37, 38, 39, 40, 41, 42, 44, 45, 46, 47, 48, 49, 50, 51, 52, 53, 54, 55, 56, 57, 58, 59, 60, 61, 62, 63, 64, 65, 66, 67, 68, 69, 70] (.seq (g_ 1 [p_ 0 18 (.bin 3 0 (.t 17) (.t 16))]) (.seq (.cond (.t 18) .skip (.exit 2)) (.seq (.block 3 (.seq (g_ 3 [p_ 0 19 (.ixs 1 (.t 15) (.t 17)), r_ 1 20 (l_ 19), p_ 2 8 (m_ 20)]) (.seq (g_ 7 [p_ 0 21 (m_ 0), p_ 1 22 (n_ 21), p_ 2 23 (f_ 6 22), r_ 3 24 (l_ 23), p_ 4 25 (m_ 8), r_ 5 26 (.lk 1 .int .nilP false (.t 24) (.t 25)), p_ 6 9 (m_ 26)]) (.block 4 (.seq (h_ 12 [p_ 0 28 (m_ 9), p_ 1 29 (n_ 28), p_ 2 30 (f_ 1 29), p_ 3 31 (f_ 12 30), r_ 4 32 (l_ 31), p_ 5 33 (m_ 1), p_ 6 34 (m_ 0), p_ 7 35 (n_ 34), p_ 8 36 (f_ 3 35), r_ 9 37 (l_ 36), c_ 10 38 31 [(.t 32), (.t 33), (.t 37)], p_ 11 27 (m_ 38)]) (.cond (.t 27) (g_ 5 [p_ 0 39 (m_ 0), p_ 1 40 (m_ 9), p_ 2 41 (m_ 1), p_ 3 42 (.bld [(.int 1 (.ofNat 0)), (.str [])] [] []), c_ 4 43 32 [(.t 39), (.t 40), (.t 41), (i_ 13), (.t 42)]]) (.seq (h_ 18 [p_ 0 45 (m_ 9), p_ 1 46 (n_ 45), p_ 2 47 (f_ 19 46), r_ 3 48 (l_ 47), p_ 4 49 (.un 0 (.t 48)), p_ 5 50 (m_ 49), pg_ 6 51 50 false (m_ 9), pg_ 7 52 50 false (n_ 51), pg_ 8 53 50 false (f_ 20 52), rg_ 9 54 50 false (l_ 53), pg_ 10 55 50 false (m_ 1), pg_ 11 56 50 false (m_ 0), pg_ 12 57 50 false (n_ 56), pg_ 13 58 50 false (f_ 4 57), rg_ 14 59 50 false (l_ 58), cg_ 15 60 50 false 31 [(.t 54), (.t 55), (.t 59)], p_ 16 61 (.pick (.t 50) (.c (.bool true)) (.t 60)), p_ 17 44 (m_ 61)]) (.cond (.t 44) (g_ 8 [p_ 0 62 (m_ 5), p_ 1 63 (m_ 0), p_ 2 64 (m_ 9), p_ 3 65 (m_ 1), p_ 4 66 (m_ 6), c_ 5 67 33 [(.t 63), (.t 64), (.t 65), (.t 66)], e_ 6 68 (.app 76 33 224 (.t 62) (.t 67)), p_ 7 5 (m_ 68)]) .skip)))))))) (g_ 2 [p_ 0 69 (.bin 0 0 (.t 17) (i_ 1)), p_ 1 17 (m_ 69)]))))))) (.seq (g_ 2 [p_ 0 70 (m_ 5), p_ 1 4 (m_ 70)]) .ret))))))
theorem tc20_g : tc_Good 20 tc20 := ⟨by kernel_rfl, by kernel_rfl⟩
def tc21 : XF := .mk 42 (.one 4) (.seq (g_ 1 [p_ 0 4 (.mv (.c .nilS))]) (.seq (g_ 4 [p_ 0 8 (m_ 0), p_ 1 9 (m_ 1), c_ 2 10 28 [(.t 8), (.t 9)], p_ 3 5 (m_ 10)]) (.seq (.seq (g_ 2 [p_ 0 11 (m_ 5), p_ 1 12 (.bin 3 4 (.t 11) (.c (.int 0 (.negSucc 0))))]) (.cond (.t 12) (.seq (g_ 2 [p_ 0 13 (m_ 0), p_ 1 4 (m_ 13)]) .ret) .skip)) (.seq (.seq (g_ 3 [p_ 0 14 (m_ 5), p_ 1 15 (.bin 0 0 (.t 14) (i_ 1)), p_ 2 6 (m_ 15)]) (.block 2 (.loop [0, 1, 4, 5, 6, 7, 16, 17, 18, 19, 20, 21, 22, 23, 24, 25, 26, 27, 28, 29, 30, 31, 32, 33, 34, 35, 36, 37, 38, 39, 40, 41] (.seq (.seq (g_ 4 [p_ 0 16 (m_ 6), p_ 1 17 (m_ 0), p_ 2 18 (k_ 17), p_ 3 19 (.bin 3 0 (.t 16) (.t 18))]) (.cond (.t 19) .skip (.exit 2))) (.seq (.block 3 (.seq (g_ 6 [p_ 0 22 (m_ 0), p_ 1 23 (m_ 6), p_ 2 24 (.ixs 5 (.t 22) (.t 23)), r_ 3 25 (.ld true 5 (.t 24)), e_ 4 7 (.al 72 [(.int 1 (.ofNat 0)), (.int 2 (.ofNat 0)), (o_ 0), (.bool false), (o_ 0)]), e0_ 5 (.st 5 (.t 7) (.t 25))]) (.seq (g_ 4 [p_ 0 26 (m_ 1), r_ 1 27 (.ld true 5 (.t 7)), .k 2 (some 28) none 26 [22] [.t 27], p_ 3 29 (.un 0 (.t 28))]) (.cond (.t 29) (.seq (g_ 5 [p_ 0 30 (m_ 0), p_ 1 31 (m_ 5), r_ 2 32 (.ld true 5 (.t 7)), p_ 3 33 (.ixs 5 (.t 30) (.t 31)), e0_ 4 (.st 5 (.t 33) (.t 32))]) (g_ 3 [p_ 0 34 (m_ 5), p_ 1 35 (.bin 0 0 (.t 34) (i_ 1)), p_ 2 5 (m_ 35)])) .skip)))) (g_ 3 [p_ 0 20 (m_ 6), p_ 1 21 (.bin 0 0 (.t 20) (i_ 1)), p_ 2 6 (m_ 21)])))))) (.seq (g_ 4 [p_ 0 36 (m_ 0), p_ 1 37 (m_ 5), r_ 2 38 (.sls 5 (.t 36) (some (.t 37)) none none), e0_ 3 (.clr 72 [(.int 1 (.ofNat 0)), (.int 2 (.ofNat 0)), (o_ 0), (.bool false), (o_ 0)] (.t 38))]) (.seq (g_ 4 [p_ 0 39 (m_ 0), p_ 1 40 (m_ 5), r_ 2 41 (.sls 5 (.t 39) none (some (.t 40)) none), p_ 3 4 (m_ 41)]) .ret))))))
theorem tc21_g : tc_Good 21 tc21 := ⟨by kernel_rfl, by kernel_rfl⟩
def tc22 : XF := .mk 13 (.one 4) (.seq (g_ 2 [e_ 0 3 (.box 72 (.t 0)), p_ 1 4 (.mv (.c (.bool false)))]) (.seq (h_ 9 [p_ 0 5 (f_ 2 3), r_ 1 6 (l_ 5), r_ 2 7 (l_ 1), r_ 3 8 (l_ 2), p_ 4 9 (n_ 8), p_ 5 10 (f_ 1 9), r_ 6 11 (l_ 10), c_ 7 12 23 [(.t 6), (.t 7), (.t 11)], p_ 8 4 (m_ 12)]) .ret))
theorem tc22_g : tc_Good 22 tc22 := ⟨by kernel_rfl, by kernel_rfl⟩
def tc23 : XF := .mk 20 (.one 6) (.seq (g_ 1 [p_ 0 6 (.mv (.c (.bool false)))]) (.seq (g_ 14 [p_ 0 7 (m_ 1), p_ 1 8 (m_ 0), p_ 2 9 (.bin 3 3 (.t 7) (.t 8)), p_ 3 10 (m_ 9), pg_ 4 11 10 true (m_ 1), pg_ 5 12 10 true (.cnv 4 (.t 11)), pg_ 6 13 10 true (m_ 0), pg_ 7 14 10 true (.cnv 4 (.t 13)), pg_ 8 15 10 true (.bin 0 1 (.t 12) (.t 14)), pg_ 9 16 10 true (m_ 2), pg_ 10 17 10 true (.cnv 4 (.t 16)), pg_ 11 18 10 true (.bin 3 3 (.t 15) (.t 17)), p_ 12 19 (.pick (.t 10) (.t 18) (.c (.bool false))), p_ 13 6 (m_ 19)]) .ret))
theorem tc23_g : tc_Good 23 tc23 := ⟨by kernel_rfl, by kernel_rfl⟩
def tc24 : XF := .mk 67 (.one 6) (.seq (g_ 1 [p_ 0 6 (.mv (.c .nilS))]) (.seq (.seq (h_ 17 [p_ 0 13 (m_ 1), p_ 1 14 (n_ 13), p_ 2 15 (f_ 3 14), r_ 3 16 (l_ 15), p_ 4 17 (m_ 16), pg_ 5 18 17 true (m_ 1), pg_ 6 19 17 true (n_ 18), pg_ 7 20 17 true (f_ 4 19), rg_ 8 21 17 true (l_ 20), pg_ 9 22 17 true (m_ 2), pg_ 10 23 17 true (m_ 0), pg_ 11 24 17 true (n_ 23), pg_ 12 25 17 true (f_ 2 24), rg_ 13 26 17 true (l_ 25), cg_ 14 27 17 true 23 [(.t 21), (.t 22), (.t 26)], pg_ 15 28 17 true (.un 0 (.t 27)), p_ 16 29 (.pick (.t 17) (.t 28) (.c (.bool false)))]) (.cond (.t 29) (.seq (g_ 1 [p_ 0 6 (.mv (.c .nilS))]) .ret) .skip)) (.seq (g_ 9 [p_ 0 30 (m_ 1), p_ 1 31 (m_ 1), p_ 2 32 (m_ 2), p_ 3 33 (n_ 30), p_ 4 34 (f_ 3 33), e0_ 5 (.st 1 (.t 34) (.c (.bool true))), p_ 6 35 (n_ 31), p_ 7 36 (f_ 4 35), e0_ 8 (.st 1 (.t 36) (.t 32))]) (.seq (g_ 1 [p_ 0 7 (.mv (.c .nilS))]) (.seq (.seq (g_ 5 [p_ 0 37 (m_ 0), p_ 1 38 (n_ 37), p_ 2 39 (f_ 4 38), r_ 3 40 (.ld true 4 (.t 39)), p_ 4 41 (.mv (i_ 0))]) (.block 2 (.loop [1, 6, 7, 8, 9, 10, 12, 40, 41, 42, 43, 44, 45, 46, 47, 48, 49, 50, 51, 52, 53, 54, 55, 56, 57, 58, 59, 60, 61, 62, 63, 64, 65, 66] (.seq (g_ 1 [p_ 0 42 (.bin 3 0 (.t 41) (i_ 4))]) (.seq (.cond (.t 42) .skip (.exit 2)) (.seq (.block 3 (.seq (g_ 4 [p_ 0 43 (m_ 41), p_ 1 44 (.ixv false 4 1 (.t 40) (.t 41)), p_ 2 8 (m_ 43), p_ 3 9 (m_ 44)]) (.seq (g_ 9 [p_ 0 45 (m_ 8), p_ 1 46 (.cnv 1 (.t 45)), p_ 2 47 (m_ 1), p_ 3 48 (n_ 47), p_ 4 49 (f_ 0 48), r_ 5 50 (.ld true 2 (.t 49)), p_ 6 51 (.bld [(.int 1 (.ofNat 0)), (.int 1 (.ofNat 0)), (.int 1 (.ofNat 0)), (.int 3 (.ofNat 0)), (.int 3 (.ofNat 0)), (.int 3 (.ofNat 0)), (.int 3 (.ofNat 0)), (.int 4 (.ofNat 0)), (.int 4 (.ofNat 0)), (.int 1 (.ofNat 0)), (.int 2 (.ofNat 0)), (.int 3 (.ofNat 0)), (.int 1 (.ofNat 0)), (.int 1 (.ofNat 0)), (.int 1 (.ofNat 0)), (.int 1 (.ofNat 0)), (.int 1 (.ofNat 0)), (.int 1 (.ofNat 0)), (.int 1 (.ofNat 0)), .nilS, (.int 1 (.ofNat 0)), (.str []), (.int 1 (.ofNat 0)), (.int 3 (.ofNat 0)), .nilS, (.int 1 (.ofNat 0)), (.int 2 (.ofNat 0)), (.bool false), .nilS, .nilS, .nilS] [(0, 1), (1, 1), (25, 2)] [(.c (.int 1 (.ofNat 13))), (.t 46), (.t 50)]), e_ 7 10 (.al 58 [(.int 1 (.ofNat 0)), (.int 1 (.ofNat 0)), (.int 1 (.ofNat 0)), (.int 3 (.ofNat 0)), (.int 3 (.ofNat 0)), (.int 3 (.ofNat 0)), (.int 3 (.ofNat 0)), (.int 4 (.ofNat 0)), (.int 4 (.ofNat 0)), (.int 1 (.ofNat 0)), (.int 2 (.ofNat 0)), (.int 3 (.ofNat 0)), (.int 1 (.ofNat 0)), (.int 1 (.ofNat 0)), (.int 1 (.ofNat 0)), (.int 1 (.ofNat 0)), (.int 1 (.ofNat 0)), (.int 1 (.ofNat 0)), (.int 1 (.ofNat 0)), .nilS, (.int 1 (.ofNat 0)), (.str []), (.int 1 (.ofNat 0)), (.int 3 (.ofNat 0)), .nilS, (.int 1 (.ofNat 0)), (.int 2 (.ofNat 0)), (.bool false), .nilS, .nilS, .nilS]), e0_ 8 (.st 31 (.t 10) (.t 51))]) (.seq (g_ 3 [p_ 0 52 (m_ 9), p_ 1 53 (k_ 52), p_ 2 54 (.mv (i_ 0))]) (.block 4 (.loop [1, 6, 7, 8, 9, 10, 12, 40, 41, 42, 43, 44, 45, 46, 47, 48, 49, 50, 51, 52, 53, 54, 55, 56, 57, 58, 59, 60, 61, 62, 63, 64, 65, 66] (.seq (g_ 1 [p_ 0 55 (.bin 3 0 (.t 54) (.t 53))]) (.seq (.cond (.t 55) .skip (.exit 4)) (.seq (.block 5 (.seq (g_ 4 [p_ 0 56 (.ixs 2 (.t 52) (.t 54)), r_ 1 57 (.ld true 2 (.t 56)), e_ 2 12 (.al 28 [(.int 1 (.ofNat 0)), (.int 2 (.ofNat 0))]), e0_ 3 (.st 2 (.t 12) (.t 57))]) (g_ 7 [p_ 0 58 (m_ 7), r_ 1 59 (.ld true 2 (.t 12)), r_ 2 60 (.ld true 31 (.t 10)), p_ 3 61 (.bld [(.int 1 (.ofNat 0)), (.int 2 (.ofNat 0)), (.int 1 (.ofNat 0)), (.int 1 (.ofNat 0)), (.int 1 (.ofNat 0)), (.int 3 (.ofNat 0)), (.int 3 (.ofNat 0)), (.int 3 (.ofNat 0)), (.int 3 (.ofNat 0)), (.int 4 (.ofNat 0)), (.int 4 (.ofNat 0)), (.int 1 (.ofNat 0)), (.int 2 (.ofNat 0)), (.int 3 (.ofNat 0)), (.int 1 (.ofNat 0)), (.int 1 (.ofNat 0)), (.int 1 (.ofNat 0)), (.int 1 (.ofNat 0)), (.int 1 (.ofNat 0)), (.int 1 (.ofNat 0)), (.int 1 (.ofNat 0)), .nilS, (.int 1 (.ofNat 0)), (.str []), (.int 1 (.ofNat 0)), (.int 3 (.ofNat 0)), .nilS, (.int 1 (.ofNat 0)), (.int 2 (.ofNat 0)), (.bool false), .nilS, .nilS, .nilS] [(0, 2), (2, 31)] [(.t 59), (.t 60)]), e_ 4 62 (.bsl 60 33 1 [(.int 1 (.ofNat 0)), (.int 2 (.ofNat 0)), (.int 1 (.ofNat 0)), (.int 1 (.ofNat 0)), (.int 1 (.ofNat 0)), (.int 3 (.ofNat 0)), (.int 3 (.ofNat 0)), (.int 3 (.ofNat 0)), (.int 3 (.ofNat 0)), (.int 4 (.ofNat 0)), (.int 4 (.ofNat 0)), (.int 1 (.ofNat 0)), (.int 2 (.ofNat 0)), (.int 3 (.ofNat 0)), (.int 1 (.ofNat 0)), (.int 1 (.ofNat 0)), (.int 1 (.ofNat 0)), (.int 1 (.ofNat 0)), (.int 1 (.ofNat 0)), (.int 1 (.ofNat 0)), (.int 1 (.ofNat 0)), .nilS, (.int 1 (.ofNat 0)), (.str []), (.int 1 (.ofNat 0)), (.int 3 (.ofNat 0)), .nilS, (.int 1 (.ofNat 0)), (.int 2 (.ofNat 0)), (.bool false), .nilS, .nilS, .nilS] [(0, 33)] [.t 61]), e_ 5 63 (.app 60 33 224 (.t 58) (.t 62)), p_ 6 7 (m_ 63)]))) (g_ 2 [p_ 0 64 (.bin 0 0 (.t 54) (i_ 1)), p_ 1 54 (m_ 64)])))))))))) (g_ 2 [p_ 0 65 (.bin 0 0 (.t 41) (i_ 1)), p_ 1 41 (m_ 65)]))))))) (.seq (g_ 2 [p_ 0 66 (m_ 7), p_ 1 6 (m_ 66)]) .ret))))))
theorem tc24_g : tc_Good 24 tc24 := ⟨by kernel_rfl, by kernel_rfl⟩
def tc25 : XF := .mk 10 (.one 2) (.seq (g_ 1 [p_ 0 2 (.mv (.c .nilP))]) (.seq (.seq (g_ 2 [p_ 0 3 (m_ 0), p_ 1 4 (.isn false 1 (.t 3))]) (.cond (.t 4) (.seq (g_ 1 [p_ 0 2 (.mv (.c .nilP))]) .ret) .skip)) (.seq (g_ 6 [p_ 0 5 (m_ 0), p_ 1 6 (n_ 5), p_ 2 7 (f_ 0 6), p_ 3 8 (f_ 0 7), r_ 4 9 (l_ 8), p_ 5 2 (m_ 9)]) .ret)))
theorem tc25_g : tc_Good 25 tc25 := ⟨by kernel_rfl, by kernel_rfl⟩
def tc26 : XF := .mk 94 (.ct 10 true 10 11) (.seq (g_ 2 [e_ 0 10 (.al 45 [(.int 1 (.ofNat 0)), (.int 2 (.ofNat 0)), (.int 3 (.ofNat 0)), (.int 1 (.ofNat 0)), (.int 1 (.ofNat 0)), (.int 1 (.ofNat 0)), (.int 1 (.ofNat 0)), (.int 1 (.ofNat 0)), (.int 1 (.ofNat 0)), (.int 1 (.ofNat 0))]), p_ 1 11 (.mv (i_ 0))]) (.seq (g_ 3 [p_ 0 14 (m_ 3), c_ 1 15 34 [.t 14], p_ 2 12 (m_ 15)]) (.seq (.block 2 (.seq (g_ 20 [p_ 0 17 (m_ 0), c_ 1 18 27 [.t 17], p_ 2 19 (m_ 18), pg_ 3 20 19 false (m_ 12), pg_ 4 21 19 false (.isn false 1 (.t 20)), p_ 5 22 (.pick (.t 19) (.c (.bool true)) (.t 21)), p_ 6 23 (m_ 22), pg_ 7 24 23 false (m_ 4), cg_ 8 25 23 false 35 [.t 24], pg_ 9 26 23 false (.un 0 (.t 25)), p_ 10 27 (.pick (.t 23) (.c (.bool true)) (.t 26)), p_ 11 28 (m_ 27), pg_ 12 29 28 false (m_ 4), pg_ 13 30 28 false (.ixs 5 (.t 29) (i_ 0)), pg_ 14 31 28 false (f_ 0 30), rg_ 15 32 28 false (l_ 31), pg_ 16 33 28 false (m_ 2), pg_ 17 34 28 false (.bin 3 5 (.t 32) (.t 33)), p_ 18 35 (.pick (.t 28) (.c (.bool true)) (.t 34)), p_ 19 16 (m_ 35)]) (.cond (.t 16) (.seq (g_ 3 [p_ 0 36 (.bld [(.int 1 (.ofNat 0)), (.int 2 (.ofNat 0)), (.int 3 (.ofNat 0)), (.int 1 (.ofNat 0)), (.int 1 (.ofNat 0)), (.int 1 (.ofNat 0)), (.int 1 (.ofNat 0)), (.int 1 (.ofNat 0)), (.int 1 (.ofNat 0)), (.int 1 (.ofNat 0))] [] []), e0_ 1 (.st 10 (.t 10) (.t 36)), p_ 2 11 (.mv (i_ 1))]) .ret) (.seq (g_ 6 [p_ 0 38 (m_ 0), p_ 1 39 (n_ 38), p_ 2 40 (f_ 5 39), r_ 3 41 (l_ 40), p_ 4 42 (.bin 3 2 (.t 41) (.c (.int 3 (.ofNat 1048576)))), p_ 5 37 (m_ 42)]) (.cond (.t 37) (.seq (g_ 3 [p_ 0 43 (.bld [(.int 1 (.ofNat 0)), (.int 2 (.ofNat 0)), (.int 3 (.ofNat 0)), (.int 1 (.ofNat 0)), (.int 1 (.ofNat 0)), (.int 1 (.ofNat 0)), (.int 1 (.ofNat 0)), (.int 1 (.ofNat 0)), (.int 1 (.ofNat 0)), (.int 1 (.ofNat 0))] [] []), e0_ 1 (.st 10 (.t 10) (.t 43)), p_ 2 11 (.mv (i_ 11))]) .ret) (.seq (h_ 14 [p_ 0 45 (m_ 0), p_ 1 46 (n_ 45), p_ 2 47 (f_ 5 46), r_ 3 48 (l_ 47), p_ 4 49 (m_ 0), p_ 8 53 (m_ 0), p_ 9 54 (n_ 53), p_ 10 55 (f_ 2 54), r_ 11 56 (l_ 55), c_ 5 50 29 [.t 49], a_ 3 48 (l_ 47), a_ 11 56 (l_ 55), p_ 6 51 (.bin 0 1 (.t 48) (.t 50)), p_ 7 52 (.cnv 0 (.t 51)), p_ 12 57 (.bin 3 2 (.t 52) (.t 56)), p_ 13 44 (m_ 57)]) (.cond (.t 44) (.seq (g_ 3 [p_ 0 58 (.bld [(.int 1 (.ofNat 0)), (.int 2 (.ofNat 0)), (.int 3 (.ofNat 0)), (.int 1 (.ofNat 0)), (.int 1 (.ofNat 0)), (.int 1 (.ofNat 0)), (.int 1 (.ofNat 0)), (.int 1 (.ofNat 0)), (.int 1 (.ofNat 0)), (.int 1 (.ofNat 0))] [] []), e0_ 1 (.st 10 (.t 10) (.t 58)), p_ 2 11 (.mv (i_ 10))]) .ret) .skip))))))) (.seq (h_ 11 [p_ 0 59 (m_ 0), p_ 1 60 (n_ 59), p_ 2 61 (f_ 0 60), r_ 3 62 (.ld true 2 (.t 61)), p_ 4 63 (m_ 0), p_ 5 64 (n_ 63), p_ 6 65 (f_ 5 64), r_ 7 66 (l_ 65), p_ 8 67 (.bld [(.int 1 (.ofNat 0)), (.int 2 (.ofNat 0)), (.int 3 (.ofNat 0)), (.int 1 (.ofNat 0)), (.int 1 (.ofNat 0)), (.int 1 (.ofNat 0)), (.int 1 (.ofNat 0)), (.int 1 (.ofNat 0)), (.int 1 (.ofNat 0)), (.int 1 (.ofNat 0))] [(0, 2), (2, 1)] [(.t 62), (.t 66)]), e_ 9 13 (.al 45 [(.int 1 (.ofNat 0)), (.int 2 (.ofNat 0)), (.int 3 (.ofNat 0)), (.int 1 (.ofNat 0)), (.int 1 (.ofNat 0)), (.int 1 (.ofNat 0)), (.int 1 (.ofNat 0)), (.int 1 (.ofNat 0)), (.int 1 (.ofNat 0)), (.int 1 (.ofNat 0))]), a_ 3 62 (.ld true 2 (.t 61)), a_ 7 66 (l_ 65), e0_ 10 (.st 10 (.t 13) (.t 67))]) (.seq (h_ 19 [p_ 0 68 (m_ 0), p_ 1 69 (n_ 68), p_ 2 70 (f_ 6 69), r_ 3 71 (l_ 70), p_ 4 72 (m_ 0), p_ 5 73 (n_ 72), p_ 6 74 (f_ 5 73), r_ 7 75 (l_ 74), p_ 8 76 (m_ 12), r_ 9 77 (.ld true 10 (.t 13)), p_ 10 78 (m_ 2), p_ 11 79 (m_ 3), p_ 12 80 (m_ 1), p_ 13 81 (.bld [(.int 1 (.ofNat 0)), (.int 2 (.ofNat 0)), (.int 3 (.ofNat 0)), (.int 1 (.ofNat 0)), (.int 1 (.ofNat 0)), (.int 1 (.ofNat 0)), (.int 1 (.ofNat 0)), (.int 1 (.ofNat 0)), (.int 1 (.ofNat 0)), (.int 1 (.ofNat 0)), (.int 1 (.ofNat 0)), (o_ 0), (o_ 0), (o_ 0), (o_ 0), (.int 1 (.ofNat 0)), (.str [])] [(0, 10), (10, 1), (11, 1), (12, 1)] [(.t 77), (.t 78), (.t 79), (.t 80)]), p_ 14 82 (m_ 4), c_ 15 83 36 [.t 82], a_ 3 71 (l_ 70), a_ 7 75 (l_ 74), a_ 9 77 (.ld true 10 (.t 13)), p_ 16 84 (.bld [.nilP, (.int 1 (.ofNat 0)), (.int 2 (.ofNat 0)), (.int 3 (.ofNat 0)), (.int 1 (.ofNat 0)), (.int 1 (.ofNat 0)), (.int 1 (.ofNat 0)), (.int 1 (.ofNat 0)), (.int 1 (.ofNat 0)), (.int 1 (.ofNat 0)), (.int 1 (.ofNat 0)), (.int 1 (.ofNat 0)), (o_ 0), (o_ 0), (o_ 0), (o_ 0), (.int 1 (.ofNat 0)), (.str []), .nilS, (.bool false), (o_ 0)] [(0, 1), (1, 17), (18, 1)] [(.t 76), (.t 81), (.t 83)]), e_ 17 85 (.box 95 (.t 84)), a_ 3 71 (l_ 70), a_ 7 75 (l_ 74), e0_ 18 (.mu 1 .int (.t 71) (.t 75) (.t 85))]) (.seq (g_ 8 [p_ 0 86 (m_ 0), p_ 1 87 (n_ 86), p_ 2 88 (f_ 5 87), r_ 3 89 (l_ 88), p_ 4 90 (.bin 0 0 (.t 89) (.c (.int 3 (.ofNat 1)))), p_ 5 91 (n_ 86), p_ 6 92 (f_ 5 91), e0_ 7 (.st 1 (.t 92) (.t 90))]) (.seq (g_ 3 [r_ 0 93 (.ld true 10 (.t 13)), e0_ 1 (.st 10 (.t 10) (.t 93)), p_ 2 11 (.mv (i_ 0))]) .ret)))))))
theorem tc26_g : tc_Good 26 tc26 := ⟨by kernel_rfl, by kernel_rfl⟩
def tc27 : XF := .mk 12 (.one 2) (.seq (g_ 1 [p_ 0 2 (.mv (.c (.bool false)))]) (.seq (g_ 10 [p_ 0 3 (m_ 0), p_ 1 4 (.isn false 1 (.t 3)), p_ 2 5 (m_ 4), pg_ 3 6 5 false (m_ 0), pg_ 4 7 5 false (n_ 6), pg_ 5 8 5 false (f_ 6 7), rg_ 6 9 5 false (l_ 8), pg_ 7 10 5 false (.isn false 3 (.t 9)), p_ 8 11 (.pick (.t 5) (.c (.bool true)) (.t 10)), p_ 9 2 (m_ 11)]) .ret))
theorem tc27_g : tc_Good 27 tc27 := ⟨by kernel_rfl, by kernel_rfl⟩
def tc28 : XF := .mk 19 (.one 4) (.seq (g_ 1 [p_ 0 4 (.mv (i_ 0))]) (.seq (.seq (g_ 3 [p_ 0 6 (m_ 0), p_ 1 7 (k_ 6), p_ 2 8 (.mv (i_ 0))]) (.block 2 (.loop [0, 1, 4, 5, 7, 8, 9, 10, 11, 12, 13, 14, 15, 16, 17, 18] (.seq (g_ 1 [p_ 0 9 (.bin 3 0 (.t 8) (.t 7))]) (.seq (.cond (.t 9) .skip (.exit 2)) (.seq (.block 3 (.seq (g_ 2 [p_ 0 10 (m_ 8), p_ 1 5 (m_ 10)]) (.seq (g_ 6 [p_ 0 11 (m_ 1), p_ 1 12 (m_ 0), p_ 2 13 (m_ 5), p_ 3 14 (.ixs 5 (.t 12) (.t 13)), r_ 4 15 (.ld true 5 (.t 14)), .k 5 (some 16) none 11 [19, 22] [.t 15]]) (.cond (.t 16) (.seq (g_ 2 [p_ 0 17 (m_ 5), p_ 1 4 (m_ 17)]) .ret) .skip)))) (g_ 2 [p_ 0 18 (.bin 0 0 (.t 8) (i_ 1)), p_ 1 8 (m_ 18)]))))))) (.seq (g_ 1 [p_ 0 4 (.mv (.c (.int 0 (.negSucc 0))))]) .ret)))
theorem tc28_g : tc_Good 28 tc28 := ⟨by kernel_rfl, by kernel_rfl⟩
def tc29 : XF := .mk 22 (.one 2) (.seq (g_ 1 [p_ 0 2 (.mv (.c (.int 3 (.ofNat 0))))]) (.seq (.seq (g_ 2 [p_ 0 5 (m_ 0), c_ 1 6 27 [.t 5]]) (.cond (.t 6) (.seq (g_ 1 [p_ 0 2 (.mv (.c (.int 3 (.ofNat 0))))]) .ret) .skip)) (.seq (.seq (g_ 4 [p_ 0 7 (m_ 0), c_ 1 8 30 [.t 7], p_ 2 9 (k_ 8), p_ 3 10 (.mv (i_ 0))]) (.block 2 (.loop [0, 2, 4, 8, 9, 10, 11, 12, 13, 14, 15, 16, 17, 18, 19, 20, 21] (.seq (g_ 1 [p_ 0 11 (.bin 3 0 (.t 10) (.t 9))]) (.seq (.cond (.t 11) .skip (.exit 2)) (.seq (.block 3 (.seq (g_ 3 [p_ 0 12 (.ixs 1 (.t 8) (.t 10)), r_ 1 13 (l_ 12), p_ 2 4 (m_ 13)]) (.seq (g_ 3 [p_ 0 14 (m_ 4), p_ 1 15 (.bin 0 1 (.t 14) (.c (.int 3 (.ofNat 1)))), p_ 2 2 (m_ 15)]) .ret))) (g_ 2 [p_ 0 16 (.bin 0 0 (.t 10) (i_ 1)), p_ 1 10 (m_ 16)]))))))) (.seq (g_ 6 [p_ 0 17 (m_ 0), p_ 1 18 (n_ 17), p_ 2 19 (f_ 5 18), r_ 3 20 (l_ 19), p_ 4 21 (.bin 0 1 (.t 20) (.c (.int 3 (.ofNat 1)))), p_ 5 2 (m_ 21)]) .ret))))
theorem tc29_g : tc_Good 29 tc29 := ⟨by kernel_rfl, by kernel_rfl⟩
def tc30 : XF := .mk 9 (.one 2) (.seq (g_ 1 [p_ 0 2 (.mv (.c .nilS))]) (.seq (g_ 7 [p_ 0 3 (m_ 0), p_ 1 4 (n_ 3), p_ 2 5 (f_ 6 4), r_ 3 6 (l_ 5), c_ 4 7 38 [.t 6], c_ 5 8 37 [.t 7], p_ 6 2 (m_ 8)]) .ret))
theorem tc30_g : tc_Good 30 tc30 := ⟨by kernel_rfl, by kernel_rfl⟩
def tc31 : XF := .mk 20 (.one 6) (.seq (g_ 1 [p_ 0 6 (.mv (.c (.bool false)))]) (.seq (g_ 14 [p_ 0 7 (m_ 1), p_ 1 8 (m_ 0), p_ 2 9 (.bin 3 3 (.t 7) (.t 8)), p_ 3 10 (m_ 9), pg_ 4 11 10 true (m_ 1), pg_ 5 12 10 true (.cnv 4 (.t 11)), pg_ 6 13 10 true (m_ 0), pg_ 7 14 10 true (.cnv 4 (.t 13)), pg_ 8 15 10 true (.bin 0 1 (.t 12) (.t 14)), pg_ 9 16 10 true (m_ 2), pg_ 10 17 10 true (.cnv 4 (.t 16)), pg_ 11 18 10 true (.bin 3 3 (.t 15) (.t 17)), p_ 12 19 (.pick (.t 10) (.t 18) (.c (.bool false))), p_ 13 6 (m_ 19)]) .ret))
theorem tc31_g : tc_Good 31 tc31 := ⟨by kernel_rfl, by kernel_rfl⟩
def tc33 : XF := .mk 60 (.one 8) (.seq (g_ 1 [p_ 0 8 (.mv (.c .nilS))]) (.seq (g_ 9 [p_ 0 13 (m_ 1), p_ 1 14 (m_ 1), p_ 2 15 (m_ 2), p_ 3 16 (n_ 13), p_ 4 17 (f_ 19 16), e0_ 5 (.st 1 (.t 17) (.c (.bool true))), p_ 6 18 (n_ 14), p_ 7 19 (f_ 20 18), e0_ 8 (.st 1 (.t 19) (.t 15))]) (.seq (.reg true 19 (.split 15 17 (.leaf [p_ 0 20 (m_ 1), p_ 1 21 (n_ 20), p_ 2 22 (f_ 1 21), p_ 3 23 (f_ 10 22), r_ 4 24 (l_ 23), p_ 5 25 (m_ 1), p_ 6 26 (n_ 25), p_ 7 27 (f_ 1 26), p_ 8 28 (f_ 0 27), r_ 9 29 (.ld true 10 (.t 28)), p_ 10 30 (m_ 3), p_ 11 31 (m_ 1), p_ 12 32 (n_ 31), p_ 13 33 (f_ 18 32), r_ 14 34 (l_ 33), c_ 15 35 36 [.t 34], a_ 4 24 (l_ 23), a_ 9 29 (.ld true 10 (.t 28)), p_ 16 36 (.bld [(.int 1 (.ofNat 0)), (.int 1 (.ofNat 0)), (.int 1 (.ofNat 0)), (.int 3 (.ofNat 0)), (.int 3 (.ofNat 0)), (.int 3 (.ofNat 0)), (.int 3 (.ofNat 0)), (.int 4 (.ofNat 0)), (.int 4 (.ofNat 0)), (.int 1 (.ofNat 0)), (.int 2 (.ofNat 0)), (.int 3 (.ofNat 0)), (.int 1 (.ofNat 0)), (.int 1 (.ofNat 0)), (.int 1 (.ofNat 0)), (.int 1 (.ofNat 0)), (.int 1 (.ofNat 0)), (.int 1 (.ofNat 0)), (.int 1 (.ofNat 0)), .nilS, (.int 1 (.ofNat 0)), (.str []), (.int 1 (.ofNat 0)), (.int 3 (.ofNat 0)), .nilS, (.int 1 (.ofNat 0)), (.int 2 (.ofNat 0)), (.bool false), .nilS, .nilS, .nilS] [(0, 1), (1, 1), (9, 10), (6, 1), (19, 1)] [(.c (.int 1 (.ofNat 0))), (.t 24), (.t 29), (.t 30), (.t 35)]), e_ 17 9 (.al 58 [(.int 1 (.ofNat 0)), (.int 1 (.ofNat 0)), (.int 1 (.ofNat 0)), (.int 3 (.ofNat 0)), (.int 3 (.ofNat 0)), (.int 3 (.ofNat 0)), (.int 3 (.ofNat 0)), (.int 4 (.ofNat 0)), (.int 4 (.ofNat 0)), (.int 1 (.ofNat 0)), (.int 2 (.ofNat 0)), (.int 3 (.ofNat 0)), (.int 1 (.ofNat 0)), (.int 1 (.ofNat 0)), (.int 1 (.ofNat 0)), (.int 1 (.ofNat 0)), (.int 1 (.ofNat 0)), (.int 1 (.ofNat 0)), (.int 1 (.ofNat 0)), .nilS, (.int 1 (.ofNat 0)), (.str []), (.int 1 (.ofNat 0)), (.int 3 (.ofNat 0)), .nilS, (.int 1 (.ofNat 0)), (.int 2 (.ofNat 0)), (.bool false), .nilS, .nilS, .nilS]), a_ 4 24 (l_ 23), a_ 9 29 (.ld true 10 (.t 28)), e0_ 18 (.st 31 (.t 9) (.t 36))]) (.leaf [p_ 0 20 (m_ 1), p_ 1 21 (n_ 20), p_ 2 22 (f_ 1 21), p_ 3 23 (f_ 10 22), r_ 4 24 (l_ 23), p_ 5 25 (m_ 1), p_ 6 26 (n_ 25), p_ 7 27 (f_ 1 26), p_ 8 28 (f_ 0 27), r_ 9 29 (.ld true 10 (.t 28)), p_ 10 30 (m_ 3), p_ 11 31 (m_ 1), p_ 12 32 (n_ 31), p_ 13 33 (f_ 18 32), r_ 14 34 (l_ 33), e_ 17 9 (.al 58 [(.int 1 (.ofNat 0)), (.int 1 (.ofNat 0)), (.int 1 (.ofNat 0)), (.int 3 (.ofNat 0)), (.int 3 (.ofNat 0)), (.int 3 (.ofNat 0)), (.int 3 (.ofNat 0)), (.int 4 (.ofNat 0)), (.int 4 (.ofNat 0)), (.int 1 (.ofNat 0)), (.int 2 (.ofNat 0)), (.int 3 (.ofNat 0)), (.int 1 (.ofNat 0)), (.int 1 (.ofNat 0)), (.int 1 (.ofNat 0)), (.int 1 (.ofNat 0)), (.int 1 (.ofNat 0)), (.int 1 (.ofNat 0)), (.int 1 (.ofNat 0)), .nilS, (.int 1 (.ofNat 0)), (.str []), (.int 1 (.ofNat 0)), (.int 3 (.ofNat 0)), .nilS, (.int 1 (.ofNat 0)), (.int 2 (.ofNat 0)), (.bool false), .nilS, .nilS, .nilS]), a_ 4 24 (l_ 23), a_ 9 29 (.ld true 10 (.t 28)), a_ 14 34 (l_ 33), c_ 15 35 36 [.t 34], a_ 4 24 (l_ 23), a_ 9 29 (.ld true 10 (.t 28)), p_ 16 36 (.bld [(.int 1 (.ofNat 0)), (.int 1 (.ofNat 0)), (.int 1 (.ofNat 0)), (.int 3 (.ofNat 0)), (.int 3 (.ofNat 0)), (.int 3 (.ofNat 0)), (.int 3 (.ofNat 0)), (.int 4 (.ofNat 0)), (.int 4 (.ofNat 0)), (.int 1 (.ofNat 0)), (.int 2 (.ofNat 0)), (.int 3 (.ofNat 0)), (.int 1 (.ofNat 0)), (.int 1 (.ofNat 0)), (.int 1 (.ofNat 0)), (.int 1 (.ofNat 0)), (.int 1 (.ofNat 0)), (.int 1 (.ofNat 0)), (.int 1 (.ofNat 0)), .nilS, (.int 1 (.ofNat 0)), (.str []), (.int 1 (.ofNat 0)), (.int 3 (.ofNat 0)), .nilS, (.int 1 (.ofNat 0)), (.int 2 (.ofNat 0)), (.bool false), .nilS, .nilS, .nilS] [(0, 1), (1, 1), (9, 10), (6, 1), (19, 1)] [(.c (.int 1 (.ofNat 0))), (.t 24), (.t 29), (.t 30), (.t 35)]), e0_ 18 (.st 31 (.t 9) (.t 36))]))) (.seq (g_ 1 [p_ 0 10 (.mv (.c .nilS))]) (.seq (.seq (h_ 12 [p_ 0 37 (m_ 0), p_ 1 38 (m_ 1), p_ 2 39 (n_ 38), p_ 3 40 (f_ 1 39), p_ 4 41 (f_ 10 40), r_ 5 42 (l_ 41), p_ 6 43 (n_ 37), p_ 7 44 (f_ 7 43), p_ 8 45 (.ixa 4 1 (.t 44) (.t 42)), r_ 9 46 (l_ 45), p_ 10 47 (k_ 46), p_ 11 48 (.mv (i_ 0))]) (.block 2 (.loop [8, 9, 10, 12, 46, 47, 48, 49, 50, 51, 52, 53, 54, 55, 56, 57, 58, 59] (.seq (g_ 1 [p_ 0 49 (.bin 3 0 (.t 48) (.t 47))]) (.seq (.cond (.t 49) .skip (.exit 2)) (.seq (.block 3 (.seq (g_ 4 [p_ 0 50 (.ixs 2 (.t 46) (.t 48)), r_ 1 51 (.ld true 2 (.t 50)), e_ 2 12 (.al 28 [(.int 1 (.ofNat 0)), (.int 2 (.ofNat 0))]), e0_ 3 (.st 2 (.t 12) (.t 51))]) (g_ 7 [p_ 0 52 (m_ 10), r_ 1 53 (.ld true 2 (.t 12)), r_ 2 54 (.ld true 31 (.t 9)), p_ 3 55 (.bld [(.int 1 (.ofNat 0)), (.int 2 (.ofNat 0)), (.int 1 (.ofNat 0)), (.int 1 (.ofNat 0)), (.int 1 (.ofNat 0)), (.int 3 (.ofNat 0)), (.int 3 (.ofNat 0)), (.int 3 (.ofNat 0)), (.int 3 (.ofNat 0)), (.int 4 (.ofNat 0)), (.int 4 (.ofNat 0)), (.int 1 (.ofNat 0)), (.int 2 (.ofNat 0)), (.int 3 (.ofNat 0)), (.int 1 (.ofNat 0)), (.int 1 (.ofNat 0)), (.int 1 (.ofNat 0)), (.int 1 (.ofNat 0)), (.int 1 (.ofNat 0)), (.int 1 (.ofNat 0)), (.int 1 (.ofNat 0)), .nilS, (.int 1 (.ofNat 0)), (.str []), (.int 1 (.ofNat 0)), (.int 3 (.ofNat 0)), .nilS, (.int 1 (.ofNat 0)), (.int 2 (.ofNat 0)), (.bool false), .nilS, .nilS, .nilS] [(0, 2), (2, 31)] [(.t 53), (.t 54)]), e_ 4 56 (.bsl 76 33 1 [(.int 1 (.ofNat 0)), (.int 2 (.ofNat 0)), (.int 1 (.ofNat 0)), (.int 1 (.ofNat 0)), (.int 1 (.ofNat 0)), (.int 3 (.ofNat 0)), (.int 3 (.ofNat 0)), (.int 3 (.ofNat 0)), (.int 3 (.ofNat 0)), (.int 4 (.ofNat 0)), (.int 4 (.ofNat 0)), (.int 1 (.ofNat 0)), (.int 2 (.ofNat 0)), (.int 3 (.ofNat 0)), (.int 1 (.ofNat 0)), (.int 1 (.ofNat 0)), (.int 1 (.ofNat 0)), (.int 1 (.ofNat 0)), (.int 1 (.ofNat 0)), (.int 1 (.ofNat 0)), (.int 1 (.ofNat 0)), .nilS, (.int 1 (.ofNat 0)), (.str []), (.int 1 (.ofNat 0)), (.int 3 (.ofNat 0)), .nilS, (.int 1 (.ofNat 0)), (.int 2 (.ofNat 0)), (.bool false), .nilS, .nilS, .nilS] [(0, 33)] [.t 55]), e_ 5 57 (.app 76 33 224 (.t 52) (.t 56)), p_ 6 10 (m_ 57)]))) (g_ 2 [p_ 0 58 (.bin 0 0 (.t 48) (i_ 1)), p_ 1 48 (m_ 58)]))))))) (.seq (g_ 2 [p_ 0 59 (m_ 10), p_ 1 8 (m_ 59)]) .ret))))))
theorem tc33_g : tc_Good 33 tc33 := ⟨by kernel_rfl, by kernel_rfl⟩
def tc34 : XF := .mk 13 (.one 2) (.seq (g_ 1 [p_ 0 2 (.mv (.c .nilP))]) (.seq (.seq (g_ 6 [p_ 0 3 (m_ 0), p_ 1 4 (.bin 3 0 (.t 3) (i_ 0)), p_ 2 5 (m_ 4), pg_ 3 6 5 false (m_ 0), pg_ 4 7 5 false (.bin 3 2 (.t 6) (i_ 2)), p_ 5 8 (.pick (.t 5) (.c (.bool true)) (.t 7))]) (.cond (.t 8) (.seq (g_ 1 [p_ 0 2 (.mv (.c .nilP))]) .ret) .skip)) (.seq (g_ 5 [p_ 0 9 (m_ 0), e_ 1 10 .mkm, p_ 2 11 (.bld [(o_ 0), .nilM, (o_ 0), (.bool false), (.int 1 (.ofNat 0)), (.str []), (.int 1 (.ofNat 0)), (.int 3 (.ofNat 0)), .nilS, .nilS] [(0, 1), (1, 1)] [(.t 9), (.t 10)]), e_ 3 12 (.box 107 (.t 11)), p_ 4 2 (m_ 12)]) .ret)))
theorem tc34_g : tc_Good 34 tc34 := ⟨by kernel_rfl, by kernel_rfl⟩
def tc35 : XF := .mk 14 (.one 2) (.seq (g_ 1 [p_ 0 2 (.mv (.c (.bool false)))]) (.seq (.seq (g_ 8 [p_ 0 3 (m_ 0), p_ 1 4 (k_ 3), p_ 2 5 (.bin 3 0 (.t 4) (i_ 1)), p_ 3 6 (m_ 5), pg_ 4 7 6 false (m_ 0), pg_ 5 8 6 false (k_ 7), pg_ 6 9 6 false (.bin 3 2 (.t 8) (i_ 4)), p_ 7 10 (.pick (.t 6) (.c (.bool true)) (.t 9))]) (.cond (.t 10) (.seq (g_ 1 [p_ 0 2 (.mv (.c (.bool false)))]) .ret) .skip)) (.seq (g_ 4 [p_ 0 11 (m_ 0), c_ 1 12 39 [(.t 11), (.f 40)], p_ 2 13 (.un 0 (.t 12)), p_ 3 2 (m_ 13)]) .ret)))
theorem tc35_g : tc_Good 35 tc35 := ⟨by kernel_rfl, by kernel_rfl⟩
def tc36 : XF := .mk 8 (.one 2) (.seq (g_ 1 [p_ 0 2 (.mv (.c .nilS))]) (.seq (.seq (g_ 2 [p_ 0 3 (m_ 0), p_ 1 4 (.isn false 2 (.t 3))]) (.cond (.t 4) (.seq (g_ 1 [p_ 0 2 (.mv (.c .nilS))]) .ret) .skip)) (.seq (g_ 4 [e_ 0 5 (.bsl 49 5 0 [] [] []), p_ 1 6 (m_ 0), e_ 2 7 (.app 49 5 48 (.t 5) (.t 6)), p_ 3 2 (m_ 7)]) .ret)))
theorem tc36_g : tc_Good 36 tc36 := ⟨by kernel_rfl, by kernel_rfl⟩
def tc37 : XF := .mk 9 (.one 2) (.seq (g_ 1 [p_ 0 2 (.mv (.c .nilS))]) (.seq (g_ 3 [p_ 0 4 (m_ 0), c_ 1 5 42 [.t 4], p_ 2 3 (m_ 5)]) (.seq (g_ 2 [p_ 0 6 (m_ 3), c_ 1 7 43 [.t 6]]) (.seq (g_ 2 [p_ 0 8 (m_ 3), p_ 1 2 (m_ 8)]) .ret))))
theorem tc37_g : tc_Good 37 tc37 := ⟨by kernel_rfl, by kernel_rfl⟩
def tc38 : XF := .mk 4 (.one 2) (.seq (g_ 2 [e_ 0 1 (.box 82 (.t 0)), p_ 1 2 (.mv (.c .nilF))]) (.seq (g_ 2 [p_ 0 3 (.mkf 44 [.t 1]), p_ 1 2 (m_ 3)]) .ret))
theorem tc38_g : tc_Good 38 tc38 := ⟨by kernel_rfl, by kernel_rfl⟩
def tc39 : XF := .mk 9 (.one 4) (.seq (g_ 1 [p_ 0 4 (.mv (.c (.bool false)))]) (.seq (g_ 5 [p_ 0 5 (m_ 0), p_ 1 6 (m_ 1), c_ 2 7 45 [(.t 5), (.t 6)], p_ 3 8 (.bin 3 3 (.t 7) (i_ 0)), p_ 4 4 (m_ 8)]) .ret))
theorem tc39_g : tc_Good 39 tc39 := ⟨by kernel_rfl, by kernel_rfl⟩
def tc40 : XF := .mk 6 (.one 2) (.seq (g_ 2 [e_ 0 1 (.box 49 (.t 0)), p_ 1 2 (.mv (.c (.bool false)))]) (.seq (g_ 4 [r_ 0 3 (.ld true 5 (.t 1)), c_ 1 4 41 [.t 3], p_ 2 5 (.un 0 (.t 4)), p_ 3 2 (m_ 5)]) .ret))
theorem tc40_g : tc_Good 40 tc40 := ⟨by kernel_rfl, by kernel_rfl⟩
def tc41 : XF := .mk 21 (.one 2) (.seq (g_ 2 [e_ 0 1 (.box 49 (.t 0)), p_ 1 2 (.mv (.c (.bool false)))]) (.seq (g_ 19 [p_ 0 3 (f_ 0 1), r_ 1 4 (l_ 3), p_ 2 5 (.bin 3 0 (.t 4) (.c (.int 1 (.ofNat 4)))), p_ 3 6 (m_ 5), pg_ 4 7 6 true (f_ 2 1), rg_ 5 8 6 true (l_ 7), pg_ 6 9 6 true (.bin 5 1 (.t 8) (.c (.str []))), p_ 7 10 (.pick (.t 6) (.t 9) (.c (.bool false))), p_ 8 11 (m_ 10), pg_ 9 12 11 true (f_ 2 1), rg_ 10 13 11 true (l_ 12), pg_ 11 14 11 true (.len 0 (.t 13)), pg_ 12 15 11 true (.bin 3 1 (.t 14) (i_ 16)), p_ 13 16 (.pick (.t 11) (.t 15) (.c (.bool false))), p_ 14 17 (m_ 16), rg_ 15 18 17 true (.ld true 5 (.t 1)), cg_ 16 19 17 true 46 [.t 18], p_ 17 20 (.pick (.t 17) (.t 19) (.c (.bool false))), p_ 18 2 (m_ 20)]) .ret))
theorem tc41_g : tc_Good 41 tc41 := ⟨by kernel_rfl, by kernel_rfl⟩
def tc42 : XF := .mk 5 (.one 2) (.seq (g_ 1 [p_ 0 2 (.mv (.c .nilS))]) (.seq (g_ 3 [p_ 0 3 (m_ 0), c_ 1 4 47 [(.c .nilS), (.t 3)], p_ 2 2 (m_ 4)]) .ret))
theorem tc42_g : tc_Good 42 tc42 := ⟨by kernel_rfl, by kernel_rfl⟩
def tc43 : XF := .mk 11 .none (.seq (g_ 3 [p_ 0 3 (m_ 0), p_ 1 4 (k_ 3), p_ 2 2 (m_ 4)]) (g_ 6 [p_ 0 5 (m_ 0), p_ 1 6 (m_ 2), p_ 2 7 (m_ 2), p_ 3 8 (.cnv 4 (.t 7)), c_ 4 9 49 [.t 8], c_ 5 10 48 [(.t 5), (i_ 0), (.t 6), (.t 9)]]))
theorem tc43_g : tc_Good 43 tc43 := ⟨by kernel_rfl, by kernel_rfl⟩
def tc45 : XF := .mk 19 (.one 4) (.seq (g_ 1 [p_ 0 4 (.mv (i_ 0))]) (.seq (.seq (g_ 3 [p_ 0 6 (m_ 0), p_ 1 7 (k_ 6), p_ 2 8 (.mv (i_ 0))]) (.block 2 (.loop [0, 1, 4, 5, 7, 8, 9, 10, 11, 12, 13, 14, 15, 16, 17, 18] (.seq (g_ 1 [p_ 0 9 (.bin 3 0 (.t 8) (.t 7))]) (.seq (.cond (.t 9) .skip (.exit 2)) (.seq (.block 3 (.seq (g_ 2 [p_ 0 10 (m_ 8), p_ 1 5 (m_ 10)]) (.seq (g_ 6 [p_ 0 11 (m_ 1), p_ 1 12 (m_ 0), p_ 2 13 (m_ 5), p_ 3 14 (.ixs 5 (.t 12) (.t 13)), r_ 4 15 (.ld true 5 (.t 14)), .k 5 (some 16) none 11 [40] [.t 15]]) (.cond (.t 16) (.seq (g_ 2 [p_ 0 17 (m_ 5), p_ 1 4 (m_ 17)]) .ret) .skip)))) (g_ 2 [p_ 0 18 (.bin 0 0 (.t 8) (i_ 1)), p_ 1 8 (m_ 18)]))))))) (.seq (g_ 1 [p_ 0 4 (.mv (.c (.int 0 (.negSucc 0))))]) .ret)))
theorem tc45_g : tc_Good 45 tc45 := ⟨by kernel_rfl, by kernel_rfl⟩
def tc46 : XF := .mk 39 (.one 2) (.seq (g_ 2 [e_ 0 1 (.box 49 (.t 0)), p_ 1 2 (.mv (.c (.bool false)))]) (.seq (.seq (g_ 2 [p_ 0 3 (f_ 1 1), r_ 1 4 (l_ 3)]) (.block 2 (.seq (.block 6 (.block 5 (.seq (.block 4 (.seq (.block 3 (.seq (.seq (.seq (g_ 2 [p_ 0 6 (.bin 3 4 (.t 4) (.c (.int 1 (.ofNat 1)))), p_ 1 5 (m_ 6)]) (.cond (.t 5) (.exit 3) .skip)) (.seq (.seq (.seq (g_ 2 [p_ 0 8 (.bin 3 4 (.t 4) (.c (.int 1 (.ofNat 2)))), p_ 1 7 (m_ 8)]) (.cond (.t 7) .skip (g_ 2 [p_ 0 9 (.bin 3 4 (.t 4) (.c (.int 1 (.ofNat 3)))), p_ 1 7 (m_ 9)]))) (.cond (.t 7) (.exit 4) .skip)) (.seq (.seq (g_ 2 [p_ 0 11 (.bin 3 4 (.t 4) (.c (.int 1 (.ofNat 0)))), p_ 1 10 (m_ 11)]) (.cond (.t 10) (.exit 5) .skip)) (.seq (g_ 2 [p_ 0 13 (.bin 3 4 (.t 4) (.c (.int 1 (.ofNat 4)))), p_ 1 12 (m_ 13)]) (.cond (.t 12) (.exit 6) .skip))))) (.exit 2))) (.seq (.seq (g_ 10 [p_ 0 14 (f_ 3 1), r_ 1 15 (l_ 14), p_ 2 16 (.len 0 (.t 15)), p_ 3 17 (.bin 3 1 (.t 16) (i_ 64)), p_ 4 18 (m_ 17), pg_ 5 19 18 true (f_ 4 1), rg_ 6 20 18 true (l_ 19), pg_ 7 21 18 true (.bin 3 4 (.t 20) (i_ 0)), p_ 8 22 (.pick (.t 18) (.t 21) (.c (.bool false))), p_ 9 2 (m_ 22)]) .ret) (.exit 2)))) (.seq (.seq (g_ 9 [p_ 0 23 (f_ 3 1), r_ 1 24 (l_ 23), p_ 2 25 (.bin 5 0 (.t 24) (.c (.str []))), p_ 3 26 (m_ 25), pg_ 4 27 26 true (f_ 4 1), rg_ 5 28 26 true (l_ 27), pg_ 6 29 26 true (.bin 3 3 (.t 28) (i_ 0)), p_ 7 30 (.pick (.t 26) (.t 29) (.c (.bool false))), p_ 8 2 (m_ 30)]) .ret) (.exit 2))))) (.seq (.seq (g_ 9 [p_ 0 31 (f_ 3 1), r_ 1 32 (l_ 31), p_ 2 33 (.bin 5 0 (.t 32) (.c (.str []))), p_ 3 34 (m_ 33), pg_ 4 35 34 true (f_ 4 1), rg_ 5 36 34 true (l_ 35), pg_ 6 37 34 true (.bin 3 4 (.t 36) (i_ 0)), p_ 7 38 (.pick (.t 34) (.t 37) (.c (.bool false))), p_ 8 2 (m_ 38)]) .ret) (.exit 2))))) (.seq (g_ 1 [p_ 0 2 (.mv (.c (.bool false)))]) .ret)))
theorem tc46_g : tc_Good 46 tc46 := ⟨by kernel_rfl, by kernel_rfl⟩
def tc48 : XF := .mk 134 .none (.seq (g_ 1 [p_ 0 8 (.mv (.c (.bool true)))]) (.seq (g_ 1 [p_ 0 9 (.mv (.c (.bool true)))]) (.block 2 (.loop [0, 1, 2, 3, 8, 9, 10, 11, 12, 13, 14, 15, 16, 17, 18, 19, 20, 21, 22, 23, 24, 25, 26, 28, 29, 30, 31, 32, 34, 35, 36, 37, 38, 40, 41, 42, 43, 44, 45, 46, 47, 48, 49, 50, 51, 52, 53, 55, 56, 57, 58, 59, 60, 61, 62, 63, 64, 65, 66, 67, 68, 69, 70, 71, 72, 73, 74, 75, 76, 77, 78, 79, 80, 81, 82, 83, 84, 85, 86, 87, 88, 89, 90, 91, 92, 93, 94, 95, 96, 97, 98, 99, 100, 101, 102, 103, 104, 105, 106, 107, 108, 109, 110, 111, 112, 113, 114, 115, 116, 117, 118, 119, 120, 122, 123, 124, 125, 126, 127, 128, 129, 130, 131, 133] (.block 3 (.seq (g_ 4 [p_ 0 19 (m_ 2), p_ 1 20 (m_ 1), p_ 2 21 (.bin 0 1 (.t 19) (.t 20)), p_ 3 10 (m_ 21)]) (.seq (.seq (g_ 2 [p_ 0 22 (m_ 10), p_ 1 23 (.bin 3 1 (.t 22) (i_ 12))]) (.cond (.t 23) (.seq (g_ 4 [p_ 0 24 (m_ 0), p_ 1 25 (m_ 1), p_ 2 26 (m_ 2), c_ 3 27 50 [(.t 24), (.t 25), (.t 26)]]) .ret) .skip)) (.seq (.seq (g_ 2 [p_ 0 28 (m_ 3), p_ 1 29 (.bin 3 4 (.t 28) (i_ 0))]) (.cond (.t 29) (.seq (g_ 4 [p_ 0 30 (m_ 0), p_ 1 31 (m_ 1), p_ 2 32 (m_ 2), c_ 3 33 51 [(.t 30), (.t 31), (.t 32)]]) .ret) .skip)) (.seq (.seq (g_ 2 [p_ 0 34 (m_ 8), p_ 1 35 (.un 0 (.t 34))]) (.cond (.t 35) (.seq (g_ 4 [p_ 0 36 (m_ 0), p_ 1 37 (m_ 1), p_ 2 38 (m_ 2), c_ 3 39 52 [(.t 36), (.t 37), (.t 38)]]) (g_ 3 [p_ 0 40 (m_ 3), p_ 1 41 (.bin 0 1 (.t 40) (i_ 1)), p_ 2 3 (m_ 41)])) .skip)) (.seq (g_ 9 [p_ 0 43 (m_ 0), p_ 1 44 (m_ 1), p_ 2 45 (m_ 2), c_ 3 46 53 [(.t 43), (.t 44), (.t 45)], p_ 4 42 (m_ 46), p_ 5 47 (.ext 0 (.t 42)), p_ 6 48 (.ext 1 (.t 42)), p_ 7 11 (m_ 47), p_ 8 12 (m_ 48)]) (.seq (.seq (g_ 2 [p_ 0 49 (m_ 12), p_ 1 50 (.bin 3 4 (.t 49) (i_ 2))]) (.cond (.t 50) (.seq (g_ 4 [p_ 0 51 (m_ 0), p_ 1 52 (m_ 1), p_ 2 53 (m_ 2), c_ 3 54 54 [(.t 51), (.t 52), (.t 53)]]) (.seq (g_ 7 [p_ 0 55 (m_ 2), p_ 1 56 (.bin 0 1 (.t 55) (i_ 1)), p_ 2 57 (m_ 11), p_ 3 58 (m_ 1), p_ 4 59 (.bin 0 1 (.t 57) (.t 58)), p_ 5 60 (.bin 0 1 (.t 56) (.t 59)), p_ 6 11 (m_ 60)]) (g_ 1 [p_ 0 12 (.mv (i_ 1))]))) .skip)) (.seq (.seq (g_ 8 [p_ 0 61 (m_ 8), p_ 1 62 (m_ 61), pg_ 2 63 62 true (m_ 9), p_ 3 64 (.pick (.t 62) (.t 63) (.c (.bool false))), p_ 4 65 (m_ 64), pg_ 5 66 65 true (m_ 12), pg_ 6 67 65 true (.bin 3 4 (.t 66) (i_ 1)), p_ 7 68 (.pick (.t 65) (.t 67) (.c (.bool false)))]) (.cond (.t 68) (.seq (g_ 4 [p_ 0 69 (m_ 0), p_ 1 70 (m_ 1), p_ 2 71 (m_ 2), c_ 3 72 55 [(.t 69), (.t 70), (.t 71)]]) (.cond (.t 72) .ret .skip)) .skip)) (.seq (.seq (h_ 15 [p_ 0 73 (m_ 1), p_ 1 74 (.bin 3 2 (.t 73) (i_ 0)), p_ 2 75 (m_ 74), pg_ 3 76 75 true (m_ 0), pg_ 4 77 75 true (m_ 1), pg_ 5 78 75 true (.bin 0 1 (.t 77) (i_ 1)), pg_ 6 79 75 true (.ixs 1 (.t 76) (.t 78)), rg_ 7 80 75 true (l_ 79), pg_ 8 81 75 true (m_ 0), pg_ 9 82 75 true (m_ 11), pg_ 10 83 75 true (.ixs 1 (.t 81) (.t 82)), rg_ 11 84 75 true (l_ 83), cg_ 12 85 75 true 56 [(.t 80), (.t 84)], pg_ 13 86 75 true (.un 0 (.t 85)), p_ 14 87 (.pick (.t 75) (.t 86) (.c (.bool false)))]) (.cond (.t 87) (.seq (g_ 6 [p_ 0 88 (m_ 0), p_ 1 89 (m_ 1), p_ 2 90 (m_ 2), p_ 3 91 (m_ 11), c_ 4 92 57 [(.t 88), (.t 89), (.t 90), (.t 91)], p_ 5 13 (m_ 92)]) (.seq (g_ 2 [p_ 0 93 (m_ 13), p_ 1 1 (m_ 93)]) (.exit 3))) .skip)) (.seq (g_ 10 [p_ 0 95 (m_ 0), p_ 1 96 (m_ 1), p_ 2 97 (m_ 2), p_ 3 98 (m_ 11), c_ 4 99 58 [(.t 95), (.t 96), (.t 97), (.t 98)], p_ 5 94 (m_ 99), p_ 6 100 (.ext 0 (.t 94)), p_ 7 101 (.ext 1 (.t 94)), p_ 8 14 (m_ 100), p_ 9 15 (m_ 101)]) (.seq (g_ 2 [p_ 0 102 (m_ 15), p_ 1 9 (m_ 102)]) (.seq (g_ 8 [p_ 0 103 (m_ 14), p_ 1 104 (m_ 1), p_ 2 105 (.bin 0 1 (.t 103) (.t 104)), p_ 3 106 (m_ 2), p_ 4 107 (m_ 14), p_ 5 108 (.bin 0 1 (.t 106) (.t 107)), p_ 6 16 (m_ 105), p_ 7 17 (m_ 108)]) (.seq (g_ 3 [p_ 0 109 (m_ 10), p_ 1 110 (.bin 0 3 (.t 109) (i_ 8)), p_ 2 18 (m_ 110)]) (.seq (g_ 3 [p_ 0 111 (m_ 16), p_ 1 112 (m_ 17), p_ 2 113 (.bin 3 0 (.t 111) (.t 112))]) (.cond (.t 113) (.seq (g_ 4 [p_ 0 114 (m_ 16), p_ 1 115 (m_ 18), p_ 2 116 (.bin 3 3 (.t 114) (.t 115)), p_ 3 8 (m_ 116)]) (.seq (g_ 5 [p_ 0 117 (m_ 0), p_ 1 118 (m_ 1), p_ 2 119 (m_ 14), p_ 3 120 (m_ 3), c_ 4 121 48 [(.t 117), (.t 118), (.t 119), (.t 120)]]) (g_ 3 [p_ 0 122 (m_ 14), p_ 1 123 (.bin 0 0 (.t 122) (i_ 1)), p_ 2 1 (m_ 123)]))) (.seq (g_ 4 [p_ 0 124 (m_ 17), p_ 1 125 (m_ 18), p_ 2 126 (.bin 3 3 (.t 124) (.t 125)), p_ 3 8 (m_ 126)]) (.seq (g_ 6 [p_ 0 127 (m_ 0), p_ 1 128 (m_ 14), p_ 2 129 (.bin 0 0 (.t 128) (i_ 1)), p_ 3 130 (m_ 2), p_ 4 131 (m_ 3), c_ 5 132 48 [(.t 127), (.t 129), (.t 130), (.t 131)]]) (g_ 2 [p_ 0 133 (m_ 14), p_ 1 2 (m_ 133)]))))))))))))))))))))))
theorem tc48_g : tc_Good 48 tc48 := ⟨by kernel_rfl, by kernel_rfl⟩
def tc49 : XF := .mk 8 (.one 2) (.seq (g_ 1 [p_ 0 2 (.mv (i_ 0))]) (.seq (.cond (.c (.bool false)) (.seq (g_ 4 [p_ 0 3 (m_ 0), p_ 1 4 (.cnv 3 (.t 3)), c_ 2 5 59 [.t 4], p_ 3 2 (m_ 5)]) .ret) .skip) (.seq (g_ 3 [p_ 0 6 (m_ 0), c_ 1 7 60 [.t 6], p_ 2 2 (m_ 7)]) .ret)))
theorem tc49_g : tc_Good 49 tc49 := ⟨by kernel_rfl, by kernel_rfl⟩
def tc50 : XF := .mk 49 .none (.seq (g_ 3 [p_ 0 8 (m_ 1), p_ 1 9 (.bin 0 0 (.t 8) (i_ 1)), p_ 2 6 (m_ 9)]) (.block 2 (.loop [0, 1, 2, 6, 7, 10, 11, 12, 13, 14, 15, 16, 17, 18, 19, 20, 21, 22, 23, 24, 25, 26, 27, 28, 29, 30, 31, 32, 33, 34, 35, 36, 37, 38, 39, 40, 41, 42, 43, 44, 45, 46, 47, 48] (.seq (.seq (g_ 3 [p_ 0 10 (m_ 6), p_ 1 11 (m_ 2), p_ 2 12 (.bin 3 0 (.t 10) (.t 11))]) (.cond (.t 12) .skip (.exit 2))) (.seq (.block 3 (.seq (g_ 2 [p_ 0 15 (m_ 6), p_ 1 7 (m_ 15)]) (.block 4 (.loop [0, 1, 2, 6, 7, 10, 11, 12, 13, 14, 15, 16, 17, 18, 19, 20, 21, 22, 23, 24, 25, 26, 27, 28, 29, 30, 31, 32, 33, 34, 35, 36, 37, 38, 39, 40, 41, 42, 43, 44, 45, 46, 47, 48] (.seq (.seq (h_ 15 [p_ 0 16 (m_ 7), p_ 1 17 (m_ 1), p_ 2 18 (.bin 3 2 (.t 16) (.t 17)), p_ 3 19 (m_ 18), pg_ 4 20 19 true (m_ 0), pg_ 5 21 19 true (m_ 7), pg_ 6 22 19 true (.ixs 1 (.t 20) (.t 21)), rg_ 7 23 19 true (l_ 22), pg_ 8 24 19 true (m_ 0), pg_ 9 25 19 true (m_ 7), pg_ 10 26 19 true (.bin 0 1 (.t 25) (i_ 1)), pg_ 11 27 19 true (.ixs 1 (.t 24) (.t 26)), rg_ 12 28 19 true (l_ 27), cg_ 13 29 19 true 56 [(.t 23), (.t 28)], p_ 14 30 (.pick (.t 19) (.t 29) (.c (.bool false)))]) (.cond (.t 30) .skip (.exit 4))) (.seq (.block 5 (h_ 18 [p_ 0 33 (m_ 0), p_ 1 34 (m_ 7), p_ 2 35 (m_ 0), p_ 3 36 (m_ 7), p_ 4 37 (.bin 0 1 (.t 36) (i_ 1)), p_ 5 38 (m_ 0), p_ 6 39 (m_ 7), p_ 7 40 (.bin 0 1 (.t 39) (i_ 1)), p_ 8 41 (.ixs 1 (.t 38) (.t 40)), r_ 9 42 (l_ 41), p_ 10 43 (m_ 0), p_ 11 44 (m_ 7), p_ 12 45 (.ixs 1 (.t 43) (.t 44)), r_ 13 46 (l_ 45), p_ 14 47 (.ixs 1 (.t 33) (.t 34)), e0_ 15 (.st 1 (.t 47) (.t 42)), p_ 16 48 (.ixs 1 (.t 35) (.t 37)), e0_ 17 (.st 1 (.t 48) (.t 46))])) (g_ 3 [p_ 0 31 (m_ 7), p_ 1 32 (.bin 0 1 (.t 31) (i_ 1)), p_ 2 7 (m_ 32)]))))))) (g_ 3 [p_ 0 13 (m_ 6), p_ 1 14 (.bin 0 0 (.t 13) (i_ 1)), p_ 2 6 (m_ 14)]))))))
theorem tc50_g : tc_Good 50 tc50 := ⟨by kernel_rfl, by kernel_rfl⟩
def tc60 : XF := .mk 25 (.one 2) (.seq (g_ 1 [p_ 0 2 (.mv (i_ 0))]) (.seq (.seq (g_ 2 [p_ 0 3 (m_ 0), p_ 1 4 (.bin 3 3 (.t 3) (.c (.int 4 (.ofNat 4294967296))))]) (.cond (.t 4) (.seq (g_ 3 [p_ 0 5 (m_ 0), p_ 1 6 (.bin 2 1 (.t 5) (.c (.int 4 (.ofNat 32)))), p_ 2 0 (m_ 6)]) (g_ 1 [p_ 0 2 (.mv (i_ 32))])) .skip)) (.seq (.seq (g_ 2 [p_ 0 7 (m_ 0), p_ 1 8 (.bin 3 3 (.t 7) (.c (.int 4 (.ofNat 65536))))]) (.cond (.t 8) (.seq (g_ 3 [p_ 0 9 (m_ 0), p_ 1 10 (.bin 2 1 (.t 9) (.c (.int 4 (.ofNat 16)))), p_ 2 0 (m_ 10)]) (g_ 3 [p_ 0 11 (m_ 2), p_ 1 12 (.bin 0 0 (.t 11) (i_ 16)), p_ 2 2 (m_ 12)])) .skip)) (.seq (.seq (g_ 2 [p_ 0 13 (m_ 0), p_ 1 14 (.bin 3 3 (.t 13) (.c (.int 4 (.ofNat 256))))]) (.cond (.t 14) (.seq (g_ 3 [p_ 0 15 (m_ 0), p_ 1 16 (.bin 2 1 (.t 15) (.c (.int 4 (.ofNat 8)))), p_ 2 0 (m_ 16)]) (g_ 3 [p_ 0 17 (m_ 2), p_ 1 18 (.bin 0 0 (.t 17) (i_ 8)), p_ 2 2 (m_ 18)])) .skip)) (.seq (g_ 7 [p_ 0 19 (m_ 2), p_ 1 20 (m_ 0), p_ 2 21 (.cnv 1 (.t 20)), p_ 3 22 (.six (.c (.str [0, 1, 2, 2, 3, 3, 3, 3, 4, 4, 4, 4, 4, 4, 4, 4, 5, 5, 5, 5, 5, 5, 5, 5, 5, 5, 5, 5, 5, 5, 5, 5, 6, 6, 6, 6, 6, 6, 6, 6, 6, 6, 6, 6, 6, 6, 6, 6, 6, 6, 6, 6, 6, 6, 6, 6, 6, 6, 6, 6, 6, 6, 6, 6, 7, 7, 7, 7, 7, 7, 7, 7, 7, 7, 7, 7, 7, 7, 7, 7, 7, 7, 7, 7, 7, 7, 7, 7, 7, 7, 7, 7, 7, 7, 7, 7, 7, 7, 7, 7, 7, 7, 7, 7, 7, 7, 7, 7, 7, 7, 7, 7, 7, 7, 7, 7, 7, 7, 7, 7, 7, 7, 7, 7, 7, 7, 7, 7, 8, 8, 8, 8, 8, 8, 8, 8, 8, 8, 8, 8, 8, 8, 8, 8, 8, 8, 8, 8, 8, 8, 8, 8, 8, 8, 8, 8, 8, 8, 8, 8, 8, 8, 8, 8, 8, 8, 8, 8, 8, 8, 8, 8, 8, 8, 8, 8, 8, 8, 8, 8, 8, 8, 8, 8, 8, 8, 8, 8, 8, 8, 8, 8, 8, 8, 8, 8, 8, 8, 8, 8, 8, 8, 8, 8, 8, 8, 8, 8, 8, 8, 8, 8, 8, 8, 8, 8, 8, 8, 8, 8, 8, 8, 8, 8, 8, 8, 8, 8, 8, 8, 8, 8, 8, 8, 8, 8, 8, 8, 8, 8, 8, 8, 8, 8, 8, 8, 8, 8, 8, 8, 8, 8, 8, 8, 8, 8])) (.t 21)), p_ 4 23 (.cnv 0 (.t 22)), p_ 5 24 (.bin 0 0 (.t 19) (.t 23)), p_ 6 2 (m_ 24)]) .ret)))))
theorem tc60_g : tc_Good 60 tc60 := ⟨by kernel_rfl, by kernel_rfl⟩
noncomputable def tc_tab (f : Nat) : Option XF := (Bool.rec (Bool.rec (Bool.rec (Bool.rec (Bool.rec (Bool.rec (Bool.rec none (some tc60) (Nat.beq f 60)) (Bool.rec none (some tc50) (Nat.beq f 50)) (Nat.blt f 60)) (Bool.rec none (some tc49) (Nat.beq f 49)) (Nat.blt f 50)) (Bool.rec (Bool.rec (Bool.rec none (some tc48) (Nat.beq f 48)) (Bool.rec none (some tc46) (Nat.beq f 46)) (Nat.blt f 48)) (Bool.rec none (some tc45) (Nat.beq f 45)) (Nat.blt f 46)) (Nat.blt f 49)) (Bool.rec (Bool.rec (Bool.rec (Bool.rec none (some tc43) (Nat.beq f 43)) (Bool.rec none (some tc42) (Nat.beq f 42)) (Nat.blt f 43)) (Bool.rec none (some tc41) (Nat.beq f 41)) (Nat.blt f 42)) (Bool.rec (Bool.rec none (some tc40) (Nat.beq f 40)) (Bool.rec none (some tc39) (Nat.beq f 39)) (Nat.blt f 40)) (Nat.blt f 41)) (Nat.blt f 45)) (Bool.rec (Bool.rec (Bool.rec (Bool.rec (Bool.rec none (some tc38) (Nat.beq f 38)) (Bool.rec none (some tc37) (Nat.beq f 37)) (Nat.blt f 38)) (Bool.rec none (some tc36) (Nat.beq f 36)) (Nat.blt f 37)) (Bool.rec (Bool.rec (Bool.rec none (some tc35) (Nat.beq f 35)) (Bool.rec none (some tc34) (Nat.beq f 34)) (Nat.blt f 35)) (Bool.rec none (some tc33) (Nat.beq f 33)) (Nat.blt f 34)) (Nat.blt f 36)) (Bool.rec (Bool.rec (Bool.rec (Bool.rec none (some tc31) (Nat.beq f 31)) (Bool.rec none (some tc30) (Nat.beq f 30)) (Nat.blt f 31)) (Bool.rec none (some tc29) (Nat.beq f 29)) (Nat.blt f 30)) (Bool.rec (Bool.rec none (some tc28) (Nat.beq f 28)) (Bool.rec none (some tc27) (Nat.beq f 27)) (Nat.blt f 28)) (Nat.blt f 29)) (Nat.blt f 33)) (Nat.blt f 39)) (Bool.rec (Bool.rec (Bool.rec (Bool.rec (Bool.rec (Bool.rec none (some tc26) (Nat.beq f 26)) (Bool.rec none (some tc25) (Nat.beq f 25)) (Nat.blt f 26)) (Bool.rec none (some tc24) (Nat.beq f 24)) (Nat.blt f 25)) (Bool.rec (Bool.rec (Bool.rec none (some tc23) (Nat.beq f 23)) (Bool.rec none (some tc22) (Nat.beq f 22)) (Nat.blt f 23)) (Bool.rec none (some tc21) (Nat.beq f 21)) (Nat.blt f 22)) (Nat.blt f 24)) (Bool.rec (Bool.rec (Bool.rec (Bool.rec none (some tc20) (Nat.beq f 20)) (Bool.rec none (some tc19) (Nat.beq f 19)) (Nat.blt f 20)) (Bool.rec none (some tc18) (Nat.beq f 18)) (Nat.blt f 19)) (Bool.rec (Bool.rec none (some tc17) (Nat.beq f 17)) (Bool.rec none (some tc16) (Nat.beq f 16)) (Nat.blt f 17)) (Nat.blt f 18)) (Nat.blt f 21)) (Bool.rec (Bool.rec (Bool.rec (Bool.rec (Bool.rec none (some tc15) (Nat.beq f 15)) (Bool.rec none (some tc14) (Nat.beq f 14)) (Nat.blt f 15)) (Bool.rec none (some tc13) (Nat.beq f 13)) (Nat.blt f 14)) (Bool.rec (Bool.rec (Bool.rec none (some tc12) (Nat.beq f 12)) (Bool.rec none (some tc11) (Nat.beq f 11)) (Nat.blt f 12)) (Bool.rec none (some tc10) (Nat.beq f 10)) (Nat.blt f 11)) (Nat.blt f 13)) (Bool.rec (Bool.rec (Bool.rec (Bool.rec none (some tc9) (Nat.beq f 9)) (Bool.rec none (some tc8) (Nat.beq f 8)) (Nat.blt f 9)) (Bool.rec none (some tc7) (Nat.beq f 7)) (Nat.blt f 8)) (Bool.rec (Bool.rec none (some tc6) (Nat.beq f 6)) (Bool.rec none (some tc5) (Nat.beq f 5)) (Nat.blt f 6)) (Nat.blt f 7)) (Nat.blt f 10)) (Nat.blt f 16)) (Nat.blt f 27))
theorem tc_leaf {f n : Nat} {x y : XF} (hy : tc_Good n y) (h : (Bool.rec (motive := fun _ => Option XF) none (some y) (Nat.beq f n)) = some x) : tc_Good f x := by
  cases hb : Nat.beq f n with
  | false => rw [hb] at h; cases h
  | true => rw [hb] at h; cases h; rw [Nat.eq_of_beq_eq_true hb]; exact hy
theorem tc_node {f n : Nat} {a b : Option XF} {x : XF} (ha : a = some x → tc_Good f x) (hb : b = some x → tc_Good f x) (h : (Bool.rec (motive := fun _ => Option XF) a b (Nat.blt f n)) = some x) : tc_Good f x := by
  cases hc : Nat.blt f n with
  | false => rw [hc] at h; exact ha h
  | true => rw [hc] at h; exact hb h
theorem tc_all (f : Nat) (x : XF) (h : tc_tab f = some x) : chkF Try.prog f x = true ∧ plain (bodyOf x) = true := (tc_node (tc_node (tc_node (tc_node (tc_node (tc_node (tc_leaf tc60_g) (tc_leaf tc50_g)) (tc_leaf tc49_g)) (tc_node (tc_node (tc_leaf tc48_g) (tc_leaf tc46_g)) (tc_leaf tc45_g))) (tc_node (tc_node (tc_node (tc_leaf tc43_g) (tc_leaf tc42_g)) (tc_leaf tc41_g)) (tc_node (tc_leaf tc40_g) (tc_leaf tc39_g)))) (tc_node (tc_node (tc_node (tc_node (tc_leaf tc38_g) (tc_leaf tc37_g)) (tc_leaf tc36_g)) (tc_node (tc_node (tc_leaf tc35_g) (tc_leaf tc34_g)) (tc_leaf tc33_g))) (tc_node (tc_node (tc_node (tc_leaf tc31_g) (tc_leaf tc30_g)) (tc_leaf tc29_g)) (tc_node (tc_leaf tc28_g) (tc_leaf tc27_g))))) (tc_node (tc_node (tc_node (tc_node (tc_node (tc_leaf tc26_g) (tc_leaf tc25_g)) (tc_leaf tc24_g)) (tc_node (tc_node (tc_leaf tc23_g) (tc_leaf tc22_g)) (tc_leaf tc21_g))) (tc_node (tc_node (tc_node (tc_leaf tc20_g) (tc_leaf tc19_g)) (tc_leaf tc18_g)) (tc_node (tc_leaf tc17_g) (tc_leaf tc16_g)))) (tc_node (tc_node (tc_node (tc_node (tc_leaf tc15_g) (tc_leaf tc14_g)) (tc_leaf tc13_g)) (tc_node (tc_node (tc_leaf tc12_g) (tc_leaf tc11_g)) (tc_leaf tc10_g))) (tc_node (tc_node (tc_node (tc_leaf tc9_g) (tc_leaf tc8_g)) (tc_leaf tc7_g)) (tc_node (tc_leaf tc6_g) (tc_leaf tc5_g)))))) h
theorem tc_mix : Try.prog.follows .mixedOrders = true := by kernel_rfl
end Go.Proofs.Try
namespace Go.Proofs.Yticgbaogfmafoaa
open Go Go.RowKit Go.Shelf Go.Maps
attribute [local go_sem] Oper.semAt_some
def D1 : Option Int → DataW Unit
  | none => .map []
  | some z => .map [(.int .u32 z, .lit (.bool true))]
def R1 (_ : Value) : Option (DataW Unit × List MemPlace) := some (.lit (.bool true), [])
theorem infoU : (Try.prog.info? 40).map (fun i => (i.zero, i.size, i.bytes)) = some (some (.int .u32 0), 1, 4) := by kernel_rfl
set_option maxRecDepth 100000 in
set_option maxHeartbeats 1000000 in
theorem keysU_in (F : Fence) (n : Nat) (h44 : F.fn 44) (hro : F.round = none) (hn : 1 ≤ n) (l Bm b nn : Nat) (o : Option Int) (J Jx : List Int → World → Prop)
    (hY : ∀ pre x W, J pre W → pre.length < 1 → YieldAt F (n - 1) Try.prog l #[.int .u32 x] W fun e W' =>
      (e = .returned (.bool true) ∧ J (pre ++ [x]) W' ∧ KeepsWalks W W') ∨ (e = .returned (.bool false) ∧ Jx (pre ++ [x]) W'))
    (W : World) (hJ : AbidesFrom W.heap.size J) (hm : W.cell? ⟨Bm, 0, none⟩ = some (.map (some b))) (hown : W.ownsMap Try.prog 40 R1 b nn (D1 o)) (h0 : J [] W) :
    CallsIn F n Try.prog 44 #[.func (.yield l) #[] #[], .pointer (some ⟨Bm, 0, none⟩)] W fun e W' => (∃ v, e = .returned v) ∧
      ((∃ ys, ys = o.toList ∧ J ys W') ∨ (∃ pre, True ∧ Jx pre W')) := by
  refine callsIn_of_wp Try.func44 rfl h44 ?_ hro
  simp only [Try.ntmps44, List.size_toArray, List.length_cons, List.length_nil, Nat.reduceAdd, Nat.reduceSub, Array.replicate_succ, Array.replicate_zero, List.push_toArray, List.append_toArray, List.nil_append, List.cons_append]
  gi_wp2_with (first
    | (gi_at_range; refine wpListIn_range_own _ rfl _ 82 rfl 40 _ (int_keyed Try.underlying40) Try.underlying82 _ b nn _ rfl hown ?_; intro w0 hrg0 hg0 hs0)
    | gi_in)
  go_frame
  gi_loopw [3] (fun _ wr => ∃ (left : Lit → Bool) (cnt : Nat) (ss : List Int), wr.ranges Try.prog 40 R1 b W.heap.size nn (D1 o) left cnt ∧ J ss wr ∧
      ((ss = [] ∧ (∀ kl, left kl = Maps.has (D1 o) kl)) ∨ (ss = o.toList ∧ ∀ kl, left kl = false)))
    (fun _ wr => wr.rangeLeft b W.heap.size)
  case atStart =>
    exact ⟨_, _, [], hrg0, hJ [] W w0 none h0 hg0 (fun r e => by cases e), .inl ⟨rfl, fun _ => rfl⟩⟩
  case round =>
    obtain ⟨left, cnt, ss, hrg, hJs, hC⟩ := hrel
    gi_wp2_with (first
      | (gi_at_next; refine wpListIn_next_ranges _ rfl _ rfl 40 (int_keyed Try.underlying40) R1 (Value.int .u32) id (fun key kl hk => by obtain ⟨x, rfl, _⟩ := Maps.keyOf_int_inv Try.underlying40 hk; exact ⟨x, rfl⟩) (fun v _ _ => ⟨v, rfl⟩) b W.heap.size nn _ _ _ rfl hrg ?_ ?_)
      | gi_in)
    · intro hc0 hl0
      gi_wp2
      go_end0
      refine ⟨⟨_, rfl⟩, .inl ⟨ss, ?_, hJs⟩⟩
      rcases hC with ⟨rfl, hC⟩ | ⟨rfl, _⟩
      · cases o with
        | none => rfl
        | some z =>
          have := hl0 (.int .u32 z)
          rw [hC] at this
          simp [D1, Maps.has, Lit.sameKey] at this
      · rfl
    · intro x c kl yd yp w2 cnt2 hkey hlk hv hat hrg2 hlt hg2 hs2 hen
      obtain ⟨rfl, rfl⟩ : ss = [] ∧ o = some x := by
        rcases hC with ⟨rfl, hC⟩ | ⟨rfl, hC⟩
        · rw [hC] at hlk
          obtain ⟨x', ex, rfl, _⟩ := Maps.keyOf_int_inv Try.underlying40 hkey
          obtain rfl : x = x' := by cases ex; rfl
          cases o with
          | none => simp [D1, Maps.has] at hlk
          | some z =>
            simp [D1, Maps.has, Lit.sameKey] at hlk
            exact ⟨rfl, by rw [hlk]⟩
        · rw [hC] at hlk; cases hlk
      have hleft : ∀ kl2, (left kl2 && !kl2.sameKey kl) = false := fun kl2 => by
        obtain ⟨x', ex, rfl, _⟩ := Maps.keyOf_int_inv Try.underlying40 hkey
        obtain rfl : x = x' := by cases ex; rfl
        rcases hC with ⟨_, hC⟩ | ⟨hC, _⟩
        · rw [hC]
          cases kl2 <;> simp [D1, Maps.has, Lit.sameKey]
          exact fun a b => ⟨a.symm, b.symm⟩
        · cases hC
      have hJ2 : J [] w2 := hJ [] wr w2 (some W.heap.size) hJs hg2 (fun r e => by cases e; exact ⟨Nat.le_refl _, hrg.iter_walk⟩)
      obtain ⟨fn, tmps, assign, body, hy, hR⟩ := hY [] x w2 hJ2 (by simp)
      clear hs2
      gi_wp2
      refine hR.mono ?_
      rintro e W3 (⟨rfl, hJ3, hk3⟩ | ⟨rfl, hJx3⟩)
      · gi_wp2
        have hrg3 := hrg2.of_walks hk3
        go_roundw
        case rel => exact ⟨_, cnt2, [x], hrg3, hJ3, .inr ⟨rfl, hleft⟩⟩
        case measure => rw [hrg3.left_eq, hrg.left_eq]; exact hlt
      · gi_wp2
        refine bodyPost_ret (results_none rfl _ _ _) rfl ?_
        exact ⟨⟨_, rfl⟩, .inr ⟨[x], trivial, hJx3⟩⟩
theorem keysU_stops (F : Fence) (n : Nat) (h44 : F.fn 44) (hro : F.round = none) (hn : 1 ≤ n) (Bm b nn : Nat) (o : Option Int) (w : World) (hBm : Bm < w.heap.size)
    (hm : w.cell? ⟨Bm, 0, none⟩ = some (.map (some b))) (hown : w.ownsMap Try.prog 40 R1 b nn (D1 o)) :
    SeqStopsK F n Try.prog 44 #[.pointer (some ⟨Bm, 0, none⟩)] (fun x : Int => #[Value.int .u32 x]) KeepsWalks (fun ys => ys = o.toList) (fun _ => True) 1 w := fun l J Jx W hW hJ _ hY h0 => by
  have hown' : W.ownsMap Try.prog 40 R1 b nn (D1 o) := by
    have hbl := hown.lt
    obtain ⟨es, clock, hb, Ft, hs, hD⟩ := hown
    exact ⟨es, clock, (hW.block b hbl).trans hb, Ft, hs, hD⟩
  exact keysU_in F n h44 hro hn l Bm b nn o J Jx hY W hJ ((hW.cell (p := ⟨Bm, 0, none⟩) hBm).trans hm) hown' h0
set_option maxRecDepth 100000 in
set_option maxHeartbeats 2000000 in
theorem appendU_in (F : Fence) (n : Nat) (h47 : F.fn 47) (h44 : F.fn 44) (hro : F.round = none) (hn : 3 ≤ n) (Bm b nn : Nat) (o : Option Int) (w : World) (hBm : Bm < w.heap.size)
    (hm : w.cell? ⟨Bm, 0, none⟩ = some (.map (some b))) (hown : w.ownsMap Try.prog 40 R1 b nn (D1 o)) :
    CallsIn F n Try.prog 47 #[.slice none 0 0, .func (.func 44) #[] #[.pointer (some ⟨Bm, 0, none⟩)]] w fun e W' => ∃ v, e = .returned v ∧ W'.ownsRow w.heap.size 40 1 v o.toList.length (o.toList.map (Value.int .u32)) ∧ (v = .slice none 0 0 ↔ o.toList = []) ∧ Below w.heap.size w W' := by
  have h1 : 1 ≤ n := by omega
  obtain ⟨i0, hi, hz0, hz1, hz2⟩ := info_parts infoU
  refine callsIn_of_wp_marks Try.func47 rfl h47 ?_ hro
  simp only [Try.ntmps47, List.size_toArray, List.length_cons, List.length_nil, Nat.reduceAdd, Nat.reduceSub, Array.replicate_succ, Array.replicate_zero, List.push_toArray, List.append_toArray, List.nil_append, List.cons_append]
  gi_wp2
  have bO := Boxed.new w 88 (.slice none 0 0)
  have hB0 : Below w.heap.size w (w.alloc (.cells #[.slice none 0 0] 88)) := (Below.refl _ w).alloc (Nat.le_refl _) _
  have hown0 : (w.alloc (.cells #[.slice none 0 0] 88)).ownsMap Try.prog 40 R1 b nn (D1 o) := by
    have hbl := hown.lt
    obtain ⟨es, clock, hb, Ft, hs, hD⟩ := hown
    exact ⟨es, clock, (hB0.block b hbl).trans hb, Ft, hs, hD⟩
  refine wpIn_rangeFunc_ownF hro h1 (gf := 44) (lb := #[.pointer (some ⟨Bm, 0, none⟩)]) rfl h44 (enters_of Try.func44 (by kernel_rfl) rfl)
    (keysU_stops F (n - 1) h44 hro (by omega) Bm b nn o _ (by simp; omega) ((hB0.cell (p := ⟨Bm, 0, none⟩) hBm).trans hm) hown0) walksK_t walksK_b (Below.refl _ _) (fun _ => rfl)
    (fun pre W => (∃ v, Boxed W w.heap.size 88 v ∧ W.ownsRow w.heap.size 40 1 v pre.length (pre.map (Value.int .u32)) ∧ (v = .slice none 0 0 ↔ pre = [])) ∧ Below w.heap.size w W)
    (fun _ _ _ => False)
    (OwnFrom.and (Own.from (holdsRow_own w.heap.size w.heap.size 88 40 1 (fun pre => pre.length) (fun pre => pre.map (Value.int .u32)) (fun pre v => v = .slice none 0 0 ↔ pre = [])) _) (ownFrom_below (Nat.le_refl _) (by simp)))
    (fun _ _ _ _ _ hs _ _ => hs)
    ⟨⟨_, bO, World.ownsRow_nil _ _ _ _, by simp⟩, hB0⟩
    (fun x => { tmps := #[.slice none 0 0, .func (.func 44) #[] #[.pointer (some ⟨Bm, 0, none⟩)], .pointer (some ⟨w.heap.size, 0, none⟩), undef, .slice none 0 0, .int .u32 x, .func (.func 44) #[] #[.pointer (some ⟨Bm, 0, none⟩)], .int .u32 x, undef, undef, undef, undef, undef], defers := [] }) ?assign ?body ?done ?stop
  case assign =>
    intro l x W K hK
    gi_wp2
    exact hK
  case body =>
    rintro l pre x W ⟨⟨v, hv, hrow, hnil⟩, hB⟩ hlt
    have hc := hv.cell
    have hmx : 1 ≤ maxLen := by decide
    have hpl : pre.length + 1 ≤ maxLen := by omega
    have hpb : (pre.length + 1) * 4 ≤ 140737488355328 := by omega
    gi_wp2_with (gi_at_builtin; refine wpListIn_append_own _ rfl _ _ 88 rfl w.heap.size 40 i0 (.int .u32 0) 1 4 Try.underlying88 hi hz0 hz1 hz2 rfl (by decide) _ _ _ rfl (hrow.alloc _) ⟨W.heap.size, 0, none⟩ 1 1 [.int .u32 x] rfl rfl (cell_one_new _ _ _) (by simp [Value.oneCell']) hpl hpb (by have := hB.size; simp; omega) ?_; intro v' w1 hown' hgrow _; obtain ⟨g', cap', rfl⟩ := ownsRow_succ hown'; obtain ⟨hv1, hv2, hr2, hk2, hb2⟩ := hv.appended (by decide) hrow hB.size (Nat.le_refl _) hown' hgrow; have hc1 := hv1.cell; have hf1 := hv1.frozen)
    exact ⟨hk2, hk2.walks, ⟨_, hv2, by simpa using hr2, by simp⟩, hB.trans hb2⟩
  case done =>
    rintro D ys W hD rfl ⟨⟨v, hv, hrow, hnil⟩, hB⟩ hK
    have hc := hv.cell
    gi_wp2
    refine ⟨by simp, .inl ⟨_, _, rfl, run_takeDeferred hK, ?_⟩⟩
    exact ⟨_, results_tmp rfl _ _ _, v, rfl, ownsRow_putObj hrow _ hK rfl, hnil, hB.trans (belowK_b (w := w) (Nat.le_refl _) W D _ _ (by simp at hD; omega) hK rfl rfl)⟩
  case stop =>
    rintro D c pre W _ _ h _
    exact h.elim
end Go.Proofs.Yticgbaogfmafoaa
namespace Go.Proofs.Yticgbaogfmafoaa
open Go Go.RowKit Go.Sy
open Go.Eng hiding allB
noncomputable def spKeys : SpecE := fun us M nx K => match us with
  | [.nilS, .fn f [.ptr i o]] => must (Nat.beq f 44) (must (Nat.beq o 0) (blkOf M i fun _ _ sz els => match els with
    | [[.map j]] => mapOf M j fun es clock => match es with
      | [] => K .nilS M nx
      | [(k, _, b)] => zA 3 k fun z => must (prB (InR 3 z)) (must (Nat.blt b clock) (T.set fuelT M nx (some (.blk true 40 1 [[k]])) fun M' => fN (Nat.succ nx) fun n => K (.sl nx 0 1 (.rest 0)) M' n))
      | _ => false
    | _ => false))
  | _ => false
theorem owns0 {w : World} {b clock : Nat} (h : w.heap[b]? = some (.map #[] clock)) : w.ownsMap Try.prog 40 R1 b 1 (D1 none) :=
  ⟨#[], clock, h, ⟨by decide, ⟨by simp, by simp, by simp⟩, by simp⟩, by simp, rfl⟩
theorem rd_one {z : Int} (hz : InR 3 z) (v : Value) (b : Nat) : WideElems.rd Try.prog 40 R1 ⟨.int .u32 z, v, b⟩ = some (.int .u32 z, .lit (.bool true)) := by
  have hw : (Lit.int .u32 z).wf = true := by simp only [InR] at hz; simp [Lit.wf, IntKind.min, IntKind.max, IntKind.signed, IntKind.bits]; omega
  exact WideElems.rd_mk (yv := (.lit (.bool true), [])) (Maps.keyOf_int_mk Try.underlying40 hw) rfl
theorem owns1 {w : World} {b clock : Nat} {z : Int} {v : Value} {bo : Nat} (hz : InR 3 z) (hb : bo < clock) (h : w.heap[b]? = some (.map #[⟨.int .u32 z, v, bo⟩] clock)) : w.ownsMap Try.prog 40 R1 b 1 (D1 (some z)) := by
  refine ⟨#[⟨.int .u32 z, v, bo⟩], clock, h, ⟨by simp [maxLen], ⟨by simpa using hb, by simp, by simp⟩, ?_⟩, by simp, ?_⟩
  · intro x hx
    simp at hx
    subst hx
    exact ⟨_, rd_one hz v bo⟩
  · simp [D1, WideElems.rg_of (rd_one hz v bo), DataW.insert]
theorem den_row {E : Env} {ρ : Ren} {nx g cap n : Nat} (h : ρ nx = some ⟨g, cap⟩) : den E ρ (.sl nx 0 n (.rest 0)) = some (.slice (some ⟨g, 0, none⟩) n cap) := by
  simp [den, h, capOf]
theorem natE_keys {k : Nat} : NatE Try.prog 47 k spKeys := by
  intro us xs E ρ G F M nx w K R hE hs hd hk hr
  unfold spKeys at hk
  split at hk
  case h_2 => cases hk
  rename_i f i o
  obtain ⟨e1, hk1⟩ := must_ok hk
  obtain ⟨e2, hk2⟩ := must_ok hk1
  obtain ⟨g, Ty, sz, els, hi, hk3⟩ := blkOf_ok hk2
  have e1 := Nat.eq_of_beq_eq_true e1
  have e2 := Nat.eq_of_beq_eq_true e2
  clear hk hk1 hk2
  subst e1; subst e2
  split at hk3
  case h_2 => cases hk3
  rename_i j
  obtain ⟨es, cl, hj, hk⟩ := mapOf_ok hk3
  clear hk3
  obtain ⟨x0, ys, p0, q0, rfl⟩ := denL_cons hd
  obtain ⟨x1, ys2, p1, q1, rfl⟩ := denL_cons q0
  obtain rfl : ys2 = [] := by simpa [denL] using q1.symm
  obtain ⟨e, x, h1, h2, h3⟩ := hs.cell (q := 0) (r := 0) hi rfl rfl
  obtain ⟨f, ms, f1, f2, f3⟩ := hs.map hj
  simp only [den, f1, Option.some.injEq] at h2
  subst h2
  simp only [Nat.zero_mul, Nat.add_zero] at h3
  simp only [den, Option.some.injEq] at p0
  subst p0
  simp only [den, denL, h1, Option.some.injEq] at p1
  subst p1
  have hlt : e.b < w.heap.size := by
    rcases Nat.lt_or_ge e.b w.heap.size with h | h
    · exact h
    · rw [World.cell?, Array.getElem?_eq_none h] at h3; cases h3
  have body : ∀ o : Option Int, w.ownsMap Try.prog 40 R1 f.b 1 (D1 o) → _ := fun o ho => callsIn_wide.1 (appendU_in Fence.wide 3 trivial trivial rfl (by decide) e.b f.b 1 o w hlt h3 ho)
  split at hk
  · have f2 : ms = [] := by simpa [denE] using f2.symm
    subst f2
    refine (body none (owns0 f3)).mono ?_
    rintro en w' ⟨v, rfl, _, hn, hb⟩
    obtain rfl := hn.2 rfl
    exact hr _ _ _ E ρ w' _ hk hE (MLe.refl _) (fun _ _ _ h => h) (hs.ext hb) rfl
  · rename_i kk vv b
    obtain ⟨z, hz, hk1⟩ := zA_ok (E := E) (ρ := ρ) hk
    obtain ⟨hzr, hk2⟩ := mustP_ok hk1
    obtain ⟨hbc, hk3⟩ := must_ok hk2
    clear hk hk1 hk2
    rw [Nat.blt_eq] at hbc
    obtain ⟨M', hk, g1, g2⟩ := T.set_ok _ _ _ _ _ hk3
    rw [fN_eq] at hk
    obtain ⟨x2, y2, ms', a1, a2, a3, rfl⟩ : ∃ x y r, den E ρ kk = some x ∧ den E ρ vv = some y ∧ denE E ρ [] = some r ∧ ms = ⟨x, y, b⟩ :: r := by
      unfold denE at f2
      split at f2
      · rename_i q1 q2 q3
        exact ⟨_, _, _, q1, q2, q3, (Option.some.inj f2).symm⟩
      · cases f2
    obtain rfl := hz x2 a1
    have a3 : ms' = [] := by simpa [denE] using a3.symm
    subst a3
    refine (body (some z) (owns1 (v := y2) (bo := b) hzr hbc f3)).mono ?_
    rintro en w' ⟨v, rfl, hrow, hn, hb⟩
    rcases hrow.2 with ⟨_, h0⟩ | ⟨g', cap, cur, rfl, r1, r2, r3, r4, r5, r6⟩
    · simp at h0
    have hfr := hs.fresh nx (Nat.le_refl _)
    have hS : Sim E (ρ.set nx ⟨g', cap⟩) G F M' (nx + 1) w' := hs.regrow (i := nx) (old := none) (o' := .blk true 40 1 [[kk]]) (ob' := .cells cur 40 (0, 0)) hfr (Nat.le_succ _) (Nat.lt_succ_self _) (fun b h => by cases h)
      ⟨hb.os, hb.tape, hb.output, hb.size, fun k hk _ => hb.block k hk⟩ r2 (.inr r1)
      ⟨by simp, by decide, cur, [.int .u32 z], rfl, by simp [denL, a1, kOf], by simpa using r5, by simpa using r6, by simpa using r3, r4⟩ g1 (fun m hm _ => g2 m hm) (fun h => absurd rfl h)
    exact hr _ _ _ E _ w' _ hk hE (MLe.refl _) (fun m e' hm he => Ren.le_set _ hfr m e' he) hS (den_row (Ren.set_self _ _ _))
  · cases hk
end Go.Proofs.Yticgbaogfmafoaa
namespace Go.Proofs.Try
open Go.Proofs.Yticgbaogfmafoaa (natE_keys spKeys)
open Go Go.RowKit Go.Sy
open Go.Eng hiding allB
set_option maxRecDepth 1000000
set_option linter.unusedVariables false
set_option maxHeartbeats 4000000
theorem natE_no {P : Program} {f k : Nat} : NatE P f k (fun _ _ _ _ => false) := fun us xs E ρ G F M nx w K R _ _ _ h => by cases h
noncomputable def tstE (b : List AV → T → Bool) (sA sB : SpecE) : SpecE := fun us M nx K => Bool.rec (sB us M nx K) (sA us M nx K) (b us M)
theorem tstE_ok {P : Program} {f k : Nat} {sA sB : SpecE} {b : List AV → T → Bool} (hA : NatE P f k sA) (hB : NatE P f k sB) : NatE P f k (tstE b sA sB) := by
  intro us xs E ρ G F M nx w K R h1 h2 h3 h4
  have h4 : (Bool.rec (motive := fun _ => Bool) (sB us M nx K) (sA us M nx K) (b us M) : Bool) = true := h4
  cases hb : b us M with
  | true => rw [hb] at h4; exact hA us xs E ρ G F M nx w K R h1 h2 h3 h4
  | false => rw [hb] at h4; exact hB us xs E ρ G F M nx w K R h1 h2 h3 h4
abbrev KE := AV → T → Nat → Bool
abbrev IE := List AV × T × Nat
abbrev IL := SL × T × Nat
noncomputable def esOf {α : Type} (I : α → IE) (sp : α → KE → Bool) : SpecE := fun us M nx K => exB fun p : α => must (prB ((us, M, nx) = I p)) (sp p K)
theorem natE_said {P : Program} (hm : P.follows .mixedOrders = true) {cf : CallF} (hcf : CallOk P cf) {lp : LpF} {lf f k : Nat} {xf : XF} {α : Type} {I : α → IE} {sp : α → KE → Bool} (hf : chkF P f xf = true) (hkp : keepB k (bodyOf xf) = true) (hlp : ∀ b j x, (b, j, x) ∈ lpsOf (bodyOf xf) → LpOk P (nOf xf) k lp b j x)
    (h : ∀ p K, sp p K = true → funE k cf lp lf xf (I p).1 (I p).2.1 (I p).2.2 K = true) : NatE P f k (esOf I sp) :=
  natE_of hm hcf hf hkp hlp fun us M nx K hk => by
    obtain ⟨p, h1⟩ := exB_ok hk
    obtain ⟨e, h2⟩ := mustP_ok h1
    have h3 := h p K h2
    rw [← e] at h3
    exact h3
noncomputable def spP {α : Type} (pre : α → Prop) (out : α → KE → Bool) (p : α) (K : KE) : Bool := must (prB (pre p)) (out p K)
noncomputable def natC (prev : Nat → List AV → Option ES) (k : Nat) (es : SpecE) (g : Nat) (l : List (Nat × Nat)) (f : Nat) (vs : List AV) : Option ES := Bool.rec (prev f vs) (some (.mk k es)) (hasS f g vs l)
def NatsOk (P : Program) (nat : Nat → List AV → Option ES) : Prop := ∀ f vs k sp, nat f vs = some (.mk k sp) → NatE P f k sp
theorem natC_ok {P : Program} {prev : Nat → List AV → Option ES} {k g : Nat} {es : SpecE} {l : List (Nat × Nat)} (h1 : NatE P g k es) (h2 : NatsOk P prev) : NatsOk P (natC prev k es g l) := fun f vs k' sp h => nat_step h1 (h2 f vs k' sp) h
noncomputable def nat0 : Nat → List AV → Option ES := fun _ _ => none
theorem nat0_ok {P : Program} : NatsOk P nat0 := fun _ _ _ _ h => by cases h
noncomputable def noLp : LpF := fun _ _ _ _ _ => false
noncomputable def mP (p : Prop) (b : Bool) : Bool := must (prB p) b
noncomputable def iP (p : Prop) (x y : Bool) : Bool := ifB (prB p) x y
theorem mI {p : Prop} {b : Bool} (h : p) (k : b = true) : mP p b = true := mustP h k
theorem iI {p : Prop} {x y : Bool} (h : p → x = true) (k : ¬ p → y = true) : iP p x y = true := ifP h k
noncomputable def useC {α β R : Type _} (s : β) (I : α → β) (pre : α → Prop) (po : α → R → Prop) (k : α → R → Bool) : Bool := exB fun p => mP (s = I p) (mP (pre p) (allB fun r => iP (po p r) (k p r) true))
theorem callPR {α β R : Type _} {s : β} {I : α → β} {pre : α → Prop} {po : α → R → Prop} {k : α → R → Bool} (w : α) (h1 : s = I w) (h2 : pre w) (h3 : ∀ r, po w r → k w r = true) : useC s I pre po k = true :=
  exB_mk w (mustP h1 (mustP h2 (allB_mk fun r => ifP (h3 r) fun _ => rfl)))
theorem callP {α : Type} {e pre : α → Prop} {k : α → Bool} (w : α) (h1 : e w) (h2 : pre w) (h3 : k w = true) : (exB fun p => mP (e p) (mP (pre p) (k p))) = true := exB_mk w (mustP h1 (mustP h2 h3))
noncomputable abbrev cfT (nat : Nat → List AV → Option ES) : CallF := callX tc_tab nat noLp 600 40
theorem cfT_ok {nat : Nat → List AV → Option ES} (h : NatsOk Try.prog nat) : CallOk Try.prog (cfT nat) := callX_ok (lp := noLp) (lf := 600) tc_mix tc_all h 40
theorem natE_pl {nat : Nat → List AV → Option ES} (hcf : CallOk Try.prog (cfT nat)) {f k : Nat} {xf : XF} {α : Type} {I : α → IE} {pre : α → Prop} {out : α → KE → Bool} (hf : chkF Try.prog f xf = true) (hkp : keepB k (bodyOf xf) = true) (hlp : lpsOf (bodyOf xf) = [])
    (h : ∀ p K, pre p → out p K = true → funE k (cfT nat) noLp 600 xf (I p).1 (I p).2.1 (I p).2.2 K = true) : NatE Try.prog f k (esOf I (spP pre out)) :=
  natE_said (lp := noLp) (lf := 600) tc_mix hcf hf hkp (fun b j x h => by rw [hlp] at h; cases h) fun p K hk => h p K (mustP_ok hk).1 (mustP_ok hk).2
theorem natE_pn {nat : Nat → List AV → Option ES} (hcf : CallOk Try.prog (cfT nat)) {f k : Nat} {xf : XF} {α : Type} {I : α → IE} {out : α → KE → Bool} (hf : chkF Try.prog f xf = true) (hkp : keepB k (bodyOf xf) = true) (hlp : lpsOf (bodyOf xf) = [])
    (h : ∀ p K, out p K = true → funE k (cfT nat) noLp 600 xf (I p).1 (I p).2.1 (I p).2.2 K = true) : NatE Try.prog f k (esOf I out) :=
  natE_said (lp := noLp) (lf := 600) tc_mix hcf hf hkp (fun b j x h => by rw [hlp] at h; cases h) h
structure Proc where
  node : Int
  life : Int
structure ClR where
  d : Int
  a : Int
  h0 : Value
  h1 : Value
  h2 : Value
  h3 : Value
  m0 : List Proc
  m1 : List Proc
  m2 : List Proc
  m3 : List Proc
  k0 : Value
  k1 : Value
  k2 : Value
  k3 : Value
  s0 : List Proc
  s1 : List Proc
  s2 : List Proc
  s3 : List Proc
structure OuR where
  to : Proc
  g : Int
def encPr (x : Proc) : List PL := [.sint 1 x.node, .sint 2 x.life]
def encOu (x : OuR) : List PL := [.sint 1 x.to.node, .sint 2 x.to.life, .sint 1 (13 : Int), .sint 1 x.g, .sint 1 (0 : Int), .sint 3 (0 : Int), .sint 3 (0 : Int), .sint 3 (0 : Int), .sint 3 (0 : Int), .sint 4 (0 : Int), .sint 4 (0 : Int), .sint 1 (0 : Int), .sint 2 (0 : Int), .sint 3 (0 : Int), .sint 1 (0 : Int), .sint 1 (0 : Int), .sint 1 (0 : Int), .sint 1 (0 : Int), .sint 1 (0 : Int), .sint 1 (0 : Int), .sint 1 (0 : Int), .imm (.slice none 0 0) 2 Proc [] encPr, .sint 1 (0 : Int), .str [], .sint 1 (0 : Int), .sint 3 (0 : Int), .imm (.slice none 0 0) 2 Proc [] encPr, .sint 1 (4 : Int), .sint 2 (1 : Int), .bool false, .imm (.slice none 0 0) 2 Proc [] encPr, .imm (.slice none 0 0) 2 Proc [] encPr, .imm (.slice none 0 0) 2 Proc [] encPr]
noncomputable def nat_keys := natC nat0 2 spKeys 47 []
theorem nat_keys_ok : NatsOk Try.prog nat_keys := natC_ok natE_keys nat0_ok
def ft_knows : XF := .mk 65 (.one 0) (.seq (g_ 1 [p_ 0 0 (.mv (.c (.bool false)))]) (.seq (g_ 3 [c_ 0 6 6 [i_ 9], c_ 1 7 5 [.t 6, i_ 2, i_ 10, i_ 3], p_ 2 1 (m_ 7)]) (.seq (g_ 4 [p_ 0 8 (m_ 1), c_ 1 9 6 [i_ 0], e_ 2 10 (.bsl 28 2 1 [.int 1 (.ofNat 0), .int 2 (.ofNat 0)] [(0, 2)] [.t 9]), c_ 3 11 7 [.t 8, .c (.int 1 (.ofNat 1)), .t 10]]) (.seq (g_ 4 [p_ 0 12 (m_ 1), c_ 1 13 6 [i_ 4], c_ 2 14 9 [.t 12, i_ 0, .t 13], p_ 3 2 (m_ 14)]) (.seq (g_ 10 [p_ 0 16 (m_ 1), p_ 1 17 (.bld [.int 1 (.ofNat 0), .int 1 (.ofNat 0), .str [], .str [], .int 0 (.ofNat 0)] [(0, 1), (2, 1)] [.c (.int 1 (.ofNat 1)), .c (.str [97])]), e_ 2 18 (.bsl 49 5 1 [.int 1 (.ofNat 0), .int 1 (.ofNat 0), .str [], .str [], .int 0 (.ofNat 0)] [(0, 5)] [.t 17]), c_ 3 19 12 [.t 16, i_ 0, .c (.int 1 (.ofNat 1)), i_ 0, .t 18], p_ 4 15 (m_ 19), p_ 5 20 (.ext 0 (.t 15)), p_ 6 21 (.ext 1 (.t 15)), e_ 7 3 (.al 45 [.int 1 (.ofNat 0), .int 2 (.ofNat 0), .int 3 (.ofNat 0), .int 1 (.ofNat 0), .int 1 (.ofNat 0), .int 1 (.ofNat 0), .int 1 (.ofNat 0), .int 1 (.ofNat 0), .int 1 (.ofNat 0), .int 1 (.ofNat 0)]), e0_ 8 (.st 10 (.t 3) (.t 20)), p_ 9 4 (m_ 21)]) (.seq (g_ 3 [p_ 0 22 (m_ 1), c_ 1 23 10 [.t 22, i_ 1], p_ 2 5 (m_ 23)]) (.seq (g_ 42 [p_ 0 24 (m_ 2), c_ 1 25 8 [.t 24], p_ 2 26 (m_ 4), c_ 3 27 8 [.t 26], p_ 4 28 (.bin 0 0 (.t 25) (.t 27)), p_ 5 29 (.bin 3 4 (.t 28) (i_ 0)), p_ 6 30 (m_ 29), pg_ 7 31 30 true (m_ 5), pg_ 8 32 30 true (k_ 31), pg_ 9 33 30 true (.bin 3 4 (.t 32) (i_ 2)), p_ 10 34 (.pick (.t 30) (.t 33) (.c (.bool false))), p_ 11 35 (m_ 34), pg_ 12 36 35 true (m_ 5), pg_ 13 37 35 true (.ixs 33 (.t 36) (i_ 0)), pg_ 14 38 35 true (f_ 2 37), pg_ 15 39 35 true (f_ 0 38), rg_ 16 40 35 true (l_ 39), pg_ 17 41 35 true (.bin 3 4 (.t 40) (.c (.int 1 (.ofNat 0)))), p_ 18 42 (.pick (.t 35) (.t 41) (.c (.bool false))), p_ 19 43 (m_ 42), pg_ 20 44 43 true (m_ 5), pg_ 21 45 43 true (.ixs 33 (.t 44) (i_ 1)), pg_ 22 46 43 true (f_ 2 45), pg_ 23 47 43 true (f_ 0 46), rg_ 24 48 43 true (l_ 47), pg_ 25 49 43 true (.bin 3 4 (.t 48) (.c (.int 1 (.ofNat 13)))), p_ 26 50 (.pick (.t 43) (.t 49) (.c (.bool false))), p_ 27 51 (m_ 50), pg_ 28 52 51 true (m_ 5), pg_ 29 53 51 true (.ixs 33 (.t 52) (i_ 1)), pg_ 30 54 51 true (f_ 2 53), pg_ 31 55 51 true (f_ 1 54), rg_ 32 56 51 true (l_ 55), pg_ 33 57 51 true (.bin 3 4 (.t 56) (.c (.int 1 (.ofNat 1)))), p_ 34 58 (.pick (.t 51) (.t 57) (.c (.bool false))), p_ 35 59 (m_ 58), pg_ 36 60 59 true (m_ 1), cg_ 37 61 59 true 11 [.t 60], pg_ 38 62 59 true (k_ 61), pg_ 39 63 59 true (.bin 3 4 (.t 62) (i_ 1)), p_ 40 64 (.pick (.t 59) (.t 63) (.c (.bool false))), p_ 41 0 (m_ 64)]) .ret)))))))
theorem ft_knows_ok : chkF Try.prog 4 ft_knows = true := by kernel_rfl
abbrev A_knows := Unit
noncomputable def I_knows (p : A_knows) : IE := ([], .leaf, 0)
noncomputable def out_knows (p : A_knows) (K : KE) : Bool := K (.bool true) .leaf 0
theorem vf_knows (p : A_knows) (K : KE) (hK : out_knows p K = true) : (funE 0 (cfT nat_keys) noLp 600 ft_knows (I_knows p).1 (I_knows p).2.1 (I_knows p).2.2 K) = true := by
  refine Eq.trans (b := (mP (InR 3 (1 : Int)) (mP (InR 3 (1 : Int)) (must (K (.bool true) .leaf 0) (K (.bool true) .leaf 0))))) (by kernel_rfl) ?_
  refine mI (by simp only [InR] ; omega) (mI (by simp only [InR] ; omega) ?_)
  refine must_mk ?_ ?_
  exact hK
  exact hK
noncomputable def nat_knows := natC nat_keys 0 (esOf I_knows out_knows) 4 []
theorem nat_knows_ok : NatsOk Try.prog nat_knows := natC_ok (natE_pn (f := 4) (k := 0) (cfT_ok nat_keys_ok) ft_knows_ok (by rfl) (by rfl) vf_knows) nat_keys_ok
end Go.Proofs.Try
namespace Go.Proofs.Try
open Go Go.RowKit Go.Sy
open Go.Eng hiding allB
set_option maxRecDepth 1000000
set_option linter.unusedVariables false
set_option maxHeartbeats 4000000
def ft_meet : XF := .mk 27 .none (.aft (.seq (.seq (g_ 6 [p_ 0 6 (m_ 0), c_ 1 7 14 [.t 6], p_ 2 8 (m_ 7), pg_ 3 9 8 false (m_ 1), pg_ 4 10 8 false (.bin 3 3 (.t 9) (.c (.int 1 (.ofNat 4)))), p_ 5 11 (.pick (.t 8) (.c (.bool true)) (.t 10))]) (.cond (.t 11) .ret .skip)) (.pre [.fix 1 4] (.seq (h_ 8 [p_ 0 12 (m_ 0), p_ 1 13 (m_ 1), p_ 2 14 (m_ 2), p_ 4 16 (n_ 12), p_ 5 17 (f_ 4 16), c_ 3 15 15 [.t 14], p_ 6 18 (.ixa 4 1 (.t 17) (.t 13)), e0_ 7 (.st 1 (.t 18) (.t 15))]) (g_ 8 [p_ 0 19 (m_ 0), p_ 1 20 (n_ 19), p_ 2 21 (f_ 0 20), p_ 3 22 (f_ 0 21), r_ 4 23 (l_ 22), p_ 5 24 (m_ 1), p_ 6 25 (m_ 2), c_ 7 26 16 [.t 23, .t 24, .t 25]])))) [(0, [.upc 4 0 0, .upc 4 0 1, .upc 4 1 0, .upc 4 1 1, .upc 5 0 0, .upc 5 0 1, .upc 5 1 0, .upc 5 1 1, .upc 6 0 0, .upc 6 0 1, .upc 6 1 0, .upc 6 1 1, .upc 7 0 0, .upc 7 0 1, .upc 7 1 0, .upc 7 1 1, .cell 0 0 4 28 2 Proc encPr, .frzc 0 0 4, .cell 2 0 7 28 2 Proc encPr, .frzc 2 0 7, .cell 0 0 5 28 2 Proc encPr, .frzc 0 0 5, .cell 2 0 8 28 2 Proc encPr, .frzc 2 0 8, .cell 0 0 6 28 2 Proc encPr, .frzc 0 0 6, .cell 2 0 9 28 2 Proc encPr, .frzc 2 0 9, .cell 0 0 7 28 2 Proc encPr, .frzc 0 0 7, .cell 2 0 10 28 2 Proc encPr, .frzc 2 0 10]), (1, [.upc 4 0 0, .upc 4 0 1, .upc 4 1 0, .upc 4 1 1, .upc 5 0 0, .upc 5 0 1, .upc 5 1 0, .upc 5 1 1, .upc 6 0 0, .upc 6 0 1, .upc 6 1 0, .upc 6 1 1, .upc 7 0 0, .upc 7 0 1, .upc 7 1 0, .upc 7 1 1, .cell 0 0 4 28 2 Proc encPr, .frzc 0 0 4, .cell 2 0 7 28 2 Proc encPr, .frzc 2 0 7, .cell 0 0 5 28 2 Proc encPr, .frzc 0 0 5, .cell 2 0 8 28 2 Proc encPr, .frzc 2 0 8, .cell 0 0 6 28 2 Proc encPr, .frzc 0 0 6, .cell 2 0 9 28 2 Proc encPr, .frzc 2 0 9, .cell 0 0 7 28 2 Proc encPr, .frzc 0 0 7, .cell 2 0 10 28 2 Proc encPr, .frzc 2 0 10])])
theorem ft_meet_ok : chkF Try.prog 7 ft_meet = true := by kernel_rfl
structure A_meet where
  c : ClR
  g : Int
structure R_meet1 where
  h : Value
  o : List Proc
  k : Value
  s : List Proc
structure R_meet2 where
  h : Value
  o : List Proc
  k : Value
  s : List Proc
structure R_meet3 where
  h : Value
  o : List Proc
  k : Value
  s : List Proc
structure R_meet4 where
  h : Value
  o : List Proc
  k : Value
  s : List Proc
def po_meet (p : A_meet) : Prop := 4 ≤ p.g
def po_meet1 (p : A_meet) (r : R_meet1) : Prop := p.g = 0 ∧ r.o.length = 2
def po_meet2 (p : A_meet) (r : R_meet2) : Prop := p.g = 1 ∧ r.o.length = 2
def po_meet3 (p : A_meet) (r : R_meet3) : Prop := p.g = 2 ∧ r.o.length = 2
def po_meet4 (p : A_meet) (r : R_meet4) : Prop := p.g = 3 ∧ r.o.length = 2
noncomputable def I_meet (p : A_meet) : IE := ([.ptr 0 0, .sy (.int 1 p.g), .sl 1 0 2 (.ex 2)], (.node (.node (.node .leaf (some (.map [] 0)) .leaf) (some (.blk false 28 2 [[.int 1 (.ofNat 0), .int 2 (.ofNat 1)], [.int 1 (.ofNat 1), .int 2 (.ofNat 1)]])) .leaf) (some (.blk false 68 8 [[.ptr 2 0, .sy (.int 0 p.c.d), .sy (.int 0 p.c.a), .nilS, .sy (.imm p.c.h0 2 Proc p.c.m0 encPr), .sy (.imm p.c.h1 2 Proc p.c.m1 encPr), .sy (.imm p.c.h2 2 Proc p.c.m2 encPr), .sy (.imm p.c.h3 2 Proc p.c.m3 encPr)]])) (.node .leaf (some (.blk false 85 12 [[.int 1 (.ofNat 9), .int 2 (.ofNat 1), .int 0 (.ofNat 1), .sy (.int 0 p.c.d), .sy (.int 0 p.c.a), .int 3 (.ofNat 1), .map 3, .sy (.imm p.c.k0 2 Proc p.c.s0 encPr), .sy (.imm p.c.k1 2 Proc p.c.s1 encPr), .sy (.imm p.c.k2 2 Proc p.c.s2 encPr), .sy (.imm p.c.k3 2 Proc p.c.s3 encPr), .nilS]])) .leaf)), 4)
noncomputable def out_meet (p : A_meet) (K : KE) : Bool := must (iP (po_meet p) (K (.tup []) (.node (.node .leaf (some (.blk false 85 12 [[.int 1 (.ofNat 9), .int 2 (.ofNat 1), .int 0 (.ofNat 1), .sy (.int 0 p.c.d), .sy (.int 0 p.c.a), .int 3 (.ofNat 1), .map 2, .sy (.imm p.c.k0 2 Proc p.c.s0 encPr), .sy (.imm p.c.k1 2 Proc p.c.s1 encPr), .sy (.imm p.c.k2 2 Proc p.c.s2 encPr), .sy (.imm p.c.k3 2 Proc p.c.s3 encPr), .nilS]])) .leaf) (some (.blk false 68 8 [[.ptr 1 0, .sy (.int 0 p.c.d), .sy (.int 0 p.c.a), .nilS, .sy (.imm p.c.h0 2 Proc p.c.m0 encPr), .sy (.imm p.c.h1 2 Proc p.c.m1 encPr), .sy (.imm p.c.h2 2 Proc p.c.m2 encPr), .sy (.imm p.c.h3 2 Proc p.c.m3 encPr)]])) (.node .leaf (some (.map [] 0)) .leaf)) 3) true) (must (allB fun r : R_meet1 => iP (po_meet1 p r) (K (.tup []) (.node (.node .leaf (some (.blk false 85 12 [[.int 1 (.ofNat 9), .int 2 (.ofNat 1), .int 0 (.ofNat 1), .sy (.int 0 p.c.d), .sy (.int 0 p.c.a), .int 3 (.ofNat 1), .map 2, .sy (.imm r.k 2 Proc r.s encPr), .sy (.imm p.c.k1 2 Proc p.c.s1 encPr), .sy (.imm p.c.k2 2 Proc p.c.s2 encPr), .sy (.imm p.c.k3 2 Proc p.c.s3 encPr), .nilS]])) .leaf) (some (.blk false 68 8 [[.ptr 1 0, .sy (.int 0 p.c.d), .sy (.int 0 p.c.a), .nilS, .sy (.imm r.h 2 Proc r.o encPr), .sy (.imm p.c.h1 2 Proc p.c.m1 encPr), .sy (.imm p.c.h2 2 Proc p.c.m2 encPr), .sy (.imm p.c.h3 2 Proc p.c.m3 encPr)]])) (.node .leaf (some (.map [] 0)) .leaf)) 3) true) (must (allB fun r : R_meet2 => iP (po_meet2 p r) (K (.tup []) (.node (.node .leaf (some (.blk false 85 12 [[.int 1 (.ofNat 9), .int 2 (.ofNat 1), .int 0 (.ofNat 1), .sy (.int 0 p.c.d), .sy (.int 0 p.c.a), .int 3 (.ofNat 1), .map 2, .sy (.imm p.c.k0 2 Proc p.c.s0 encPr), .sy (.imm r.k 2 Proc r.s encPr), .sy (.imm p.c.k2 2 Proc p.c.s2 encPr), .sy (.imm p.c.k3 2 Proc p.c.s3 encPr), .nilS]])) .leaf) (some (.blk false 68 8 [[.ptr 1 0, .sy (.int 0 p.c.d), .sy (.int 0 p.c.a), .nilS, .sy (.imm p.c.h0 2 Proc p.c.m0 encPr), .sy (.imm r.h 2 Proc r.o encPr), .sy (.imm p.c.h2 2 Proc p.c.m2 encPr), .sy (.imm p.c.h3 2 Proc p.c.m3 encPr)]])) (.node .leaf (some (.map [] 0)) .leaf)) 3) true) (must (allB fun r : R_meet3 => iP (po_meet3 p r) (K (.tup []) (.node (.node .leaf (some (.blk false 85 12 [[.int 1 (.ofNat 9), .int 2 (.ofNat 1), .int 0 (.ofNat 1), .sy (.int 0 p.c.d), .sy (.int 0 p.c.a), .int 3 (.ofNat 1), .map 2, .sy (.imm p.c.k0 2 Proc p.c.s0 encPr), .sy (.imm p.c.k1 2 Proc p.c.s1 encPr), .sy (.imm r.k 2 Proc r.s encPr), .sy (.imm p.c.k3 2 Proc p.c.s3 encPr), .nilS]])) .leaf) (some (.blk false 68 8 [[.ptr 1 0, .sy (.int 0 p.c.d), .sy (.int 0 p.c.a), .nilS, .sy (.imm p.c.h0 2 Proc p.c.m0 encPr), .sy (.imm p.c.h1 2 Proc p.c.m1 encPr), .sy (.imm r.h 2 Proc r.o encPr), .sy (.imm p.c.h3 2 Proc p.c.m3 encPr)]])) (.node .leaf (some (.map [] 0)) .leaf)) 3) true) (allB fun r : R_meet4 => iP (po_meet4 p r) (K (.tup []) (.node (.node .leaf (some (.blk false 85 12 [[.int 1 (.ofNat 9), .int 2 (.ofNat 1), .int 0 (.ofNat 1), .sy (.int 0 p.c.d), .sy (.int 0 p.c.a), .int 3 (.ofNat 1), .map 2, .sy (.imm p.c.k0 2 Proc p.c.s0 encPr), .sy (.imm p.c.k1 2 Proc p.c.s1 encPr), .sy (.imm p.c.k2 2 Proc p.c.s2 encPr), .sy (.imm r.k 2 Proc r.s encPr), .nilS]])) .leaf) (some (.blk false 68 8 [[.ptr 1 0, .sy (.int 0 p.c.d), .sy (.int 0 p.c.a), .nilS, .sy (.imm p.c.h0 2 Proc p.c.m0 encPr), .sy (.imm p.c.h1 2 Proc p.c.m1 encPr), .sy (.imm p.c.h2 2 Proc p.c.m2 encPr), .sy (.imm r.h 2 Proc r.o encPr)]])) (.node .leaf (some (.map [] 0)) .leaf)) 3) true))))
def pre_meet (p : A_meet) : Prop := 0 ≤ p.g ∧ p.g ≤ 255
theorem vf_meet (p : A_meet) (K : KE) (hpre : pre_meet p) (hK : out_meet p K = true) : (funE 1 (cfT nat_knows) noLp 600 ft_meet (I_meet p).1 (I_meet p).2.1 (I_meet p).2.2 K) = true := by
  refine Eq.trans (b := (iP ((4 : Int) ≤ p.g) (mP ((.sy (.imm p.c.h0 2 Proc p.c.m0 encPr) : AV) = (.sy (.imm p.c.h0 2 Proc p.c.m0 encPr) : AV)) (mP ((.sy (.imm p.c.k0 2 Proc p.c.s0 encPr) : AV) = (.sy (.imm p.c.k0 2 Proc p.c.s0 encPr) : AV)) (mP ((.sy (.imm p.c.h1 2 Proc p.c.m1 encPr) : AV) = (.sy (.imm p.c.h1 2 Proc p.c.m1 encPr) : AV)) (mP ((.sy (.imm p.c.k1 2 Proc p.c.s1 encPr) : AV) = (.sy (.imm p.c.k1 2 Proc p.c.s1 encPr) : AV)) (mP ((.sy (.imm p.c.h2 2 Proc p.c.m2 encPr) : AV) = (.sy (.imm p.c.h2 2 Proc p.c.m2 encPr) : AV)) (mP ((.sy (.imm p.c.k2 2 Proc p.c.s2 encPr) : AV) = (.sy (.imm p.c.k2 2 Proc p.c.s2 encPr) : AV)) (mP ((.sy (.imm p.c.h3 2 Proc p.c.m3 encPr) : AV) = (.sy (.imm p.c.h3 2 Proc p.c.m3 encPr) : AV)) (mP ((.sy (.imm p.c.k3 2 Proc p.c.s3 encPr) : AV) = (.sy (.imm p.c.k3 2 Proc p.c.s3 encPr) : AV)) (K (.tup []) (.node (.node .leaf (some (.blk false 85 12 [[.int 1 (.ofNat 9), .int 2 (.ofNat 1), .int 0 (.ofNat 1), .sy (.int 0 p.c.d), .sy (.int 0 p.c.a), .int 3 (.ofNat 1), .map 2, .sy (.imm p.c.k0 2 Proc p.c.s0 encPr), .sy (.imm p.c.k1 2 Proc p.c.s1 encPr), .sy (.imm p.c.k2 2 Proc p.c.s2 encPr), .sy (.imm p.c.k3 2 Proc p.c.s3 encPr), .nilS]])) .leaf) (some (.blk false 68 8 [[.ptr 1 0, .sy (.int 0 p.c.d), .sy (.int 0 p.c.a), .nilS, .sy (.imm p.c.h0 2 Proc p.c.m0 encPr), .sy (.imm p.c.h1 2 Proc p.c.m1 encPr), .sy (.imm p.c.h2 2 Proc p.c.m2 encPr), .sy (.imm p.c.h3 2 Proc p.c.m3 encPr)]])) (.node .leaf (some (.map [] 0)) .leaf)) 3))))))))) (iP (p.g = 0) (exB fun l7 : List Proc => mP (l7.map encPr = [[.sint 1 0, .sint 2 1], [.sint 1 1, .sint 2 1]]) (mP ((.sl 5 0 2 (.rest 0) : AV) = (.sl 5 0 2 (.rest 0) : AV)) (mP (l7.length = l7.length) (allB fun h7 : Value => mP ((.sy (.prow 8 l7.length) : AV) = (.sy (.prow 8 l7.length) : AV)) (exB fun l8 : List Proc => mP (l8.map encPr = [[.sint 1 0, .sint 2 1], [.sint 1 1, .sint 2 1]]) (mP ((.sl 7 0 2 (.rest 0) : AV) = (.sl 7 0 2 (.rest 0) : AV)) (mP (l8.length = l8.length) (allB fun h8 : Value => mP ((.sy (.prow 9 l8.length) : AV) = (.sy (.prow 9 l8.length) : AV)) (mP ((.sy (.imm p.c.h1 2 Proc p.c.m1 encPr) : AV) = (.sy (.imm p.c.h1 2 Proc p.c.m1 encPr) : AV)) (mP ((.sy (.imm p.c.k1 2 Proc p.c.s1 encPr) : AV) = (.sy (.imm p.c.k1 2 Proc p.c.s1 encPr) : AV)) (mP ((.sy (.imm p.c.h2 2 Proc p.c.m2 encPr) : AV) = (.sy (.imm p.c.h2 2 Proc p.c.m2 encPr) : AV)) (mP ((.sy (.imm p.c.k2 2 Proc p.c.s2 encPr) : AV) = (.sy (.imm p.c.k2 2 Proc p.c.s2 encPr) : AV)) (mP ((.sy (.imm p.c.h3 2 Proc p.c.m3 encPr) : AV) = (.sy (.imm p.c.h3 2 Proc p.c.m3 encPr) : AV)) (mP ((.sy (.imm p.c.k3 2 Proc p.c.s3 encPr) : AV) = (.sy (.imm p.c.k3 2 Proc p.c.s3 encPr) : AV)) (K (.tup []) (.node (.node .leaf (some (.blk false 85 12 [[.int 1 (.ofNat 9), .int 2 (.ofNat 1), .int 0 (.ofNat 1), .sy (.int 0 p.c.d), .sy (.int 0 p.c.a), .int 3 (.ofNat 1), .map 2, .sy (.imm h8 2 Proc l8 encPr), .sy (.imm p.c.k1 2 Proc p.c.s1 encPr), .sy (.imm p.c.k2 2 Proc p.c.s2 encPr), .sy (.imm p.c.k3 2 Proc p.c.s3 encPr), .nilS]])) .leaf) (some (.blk false 68 8 [[.ptr 1 0, .sy (.int 0 p.c.d), .sy (.int 0 p.c.a), .nilS, .sy (.imm h7 2 Proc l7 encPr), .sy (.imm p.c.h1 2 Proc p.c.m1 encPr), .sy (.imm p.c.h2 2 Proc p.c.m2 encPr), .sy (.imm p.c.h3 2 Proc p.c.m3 encPr)]])) (.node .leaf (some (.map [] 0)) .leaf)) 3))))))))))))))) (iP (p.g = 1) (mP ((.sy (.imm p.c.h0 2 Proc p.c.m0 encPr) : AV) = (.sy (.imm p.c.h0 2 Proc p.c.m0 encPr) : AV)) (mP ((.sy (.imm p.c.k0 2 Proc p.c.s0 encPr) : AV) = (.sy (.imm p.c.k0 2 Proc p.c.s0 encPr) : AV)) (exB fun l5 : List Proc => mP (l5.map encPr = [[.sint 1 0, .sint 2 1], [.sint 1 1, .sint 2 1]]) (mP ((.sl 5 0 2 (.rest 0) : AV) = (.sl 5 0 2 (.rest 0) : AV)) (mP (l5.length = l5.length) (allB fun h5 : Value => mP ((.sy (.prow 8 l5.length) : AV) = (.sy (.prow 8 l5.length) : AV)) (exB fun l6 : List Proc => mP (l6.map encPr = [[.sint 1 0, .sint 2 1], [.sint 1 1, .sint 2 1]]) (mP ((.sl 7 0 2 (.rest 0) : AV) = (.sl 7 0 2 (.rest 0) : AV)) (mP (l6.length = l6.length) (allB fun h6 : Value => mP ((.sy (.prow 9 l6.length) : AV) = (.sy (.prow 9 l6.length) : AV)) (mP ((.sy (.imm p.c.h2 2 Proc p.c.m2 encPr) : AV) = (.sy (.imm p.c.h2 2 Proc p.c.m2 encPr) : AV)) (mP ((.sy (.imm p.c.k2 2 Proc p.c.s2 encPr) : AV) = (.sy (.imm p.c.k2 2 Proc p.c.s2 encPr) : AV)) (mP ((.sy (.imm p.c.h3 2 Proc p.c.m3 encPr) : AV) = (.sy (.imm p.c.h3 2 Proc p.c.m3 encPr) : AV)) (mP ((.sy (.imm p.c.k3 2 Proc p.c.s3 encPr) : AV) = (.sy (.imm p.c.k3 2 Proc p.c.s3 encPr) : AV)) (K (.tup []) (.node (.node .leaf (some (.blk false 85 12 [[.int 1 (.ofNat 9), .int 2 (.ofNat 1), .int 0 (.ofNat 1), .sy (.int 0 p.c.d), .sy (.int 0 p.c.a), .int 3 (.ofNat 1), .map 2, .sy (.imm p.c.k0 2 Proc p.c.s0 encPr), .sy (.imm h6 2 Proc l6 encPr), .sy (.imm p.c.k2 2 Proc p.c.s2 encPr), .sy (.imm p.c.k3 2 Proc p.c.s3 encPr), .nilS]])) .leaf) (some (.blk false 68 8 [[.ptr 1 0, .sy (.int 0 p.c.d), .sy (.int 0 p.c.a), .nilS, .sy (.imm p.c.h0 2 Proc p.c.m0 encPr), .sy (.imm h5 2 Proc l5 encPr), .sy (.imm p.c.h2 2 Proc p.c.m2 encPr), .sy (.imm p.c.h3 2 Proc p.c.m3 encPr)]])) (.node .leaf (some (.map [] 0)) .leaf)) 3))))))))))))))) (iP (p.g = 2) (mP ((.sy (.imm p.c.h0 2 Proc p.c.m0 encPr) : AV) = (.sy (.imm p.c.h0 2 Proc p.c.m0 encPr) : AV)) (mP ((.sy (.imm p.c.k0 2 Proc p.c.s0 encPr) : AV) = (.sy (.imm p.c.k0 2 Proc p.c.s0 encPr) : AV)) (mP ((.sy (.imm p.c.h1 2 Proc p.c.m1 encPr) : AV) = (.sy (.imm p.c.h1 2 Proc p.c.m1 encPr) : AV)) (mP ((.sy (.imm p.c.k1 2 Proc p.c.s1 encPr) : AV) = (.sy (.imm p.c.k1 2 Proc p.c.s1 encPr) : AV)) (exB fun l3 : List Proc => mP (l3.map encPr = [[.sint 1 0, .sint 2 1], [.sint 1 1, .sint 2 1]]) (mP ((.sl 5 0 2 (.rest 0) : AV) = (.sl 5 0 2 (.rest 0) : AV)) (mP (l3.length = l3.length) (allB fun h3 : Value => mP ((.sy (.prow 8 l3.length) : AV) = (.sy (.prow 8 l3.length) : AV)) (exB fun l4 : List Proc => mP (l4.map encPr = [[.sint 1 0, .sint 2 1], [.sint 1 1, .sint 2 1]]) (mP ((.sl 7 0 2 (.rest 0) : AV) = (.sl 7 0 2 (.rest 0) : AV)) (mP (l4.length = l4.length) (allB fun h4 : Value => mP ((.sy (.prow 9 l4.length) : AV) = (.sy (.prow 9 l4.length) : AV)) (mP ((.sy (.imm p.c.h3 2 Proc p.c.m3 encPr) : AV) = (.sy (.imm p.c.h3 2 Proc p.c.m3 encPr) : AV)) (mP ((.sy (.imm p.c.k3 2 Proc p.c.s3 encPr) : AV) = (.sy (.imm p.c.k3 2 Proc p.c.s3 encPr) : AV)) (K (.tup []) (.node (.node .leaf (some (.blk false 85 12 [[.int 1 (.ofNat 9), .int 2 (.ofNat 1), .int 0 (.ofNat 1), .sy (.int 0 p.c.d), .sy (.int 0 p.c.a), .int 3 (.ofNat 1), .map 2, .sy (.imm p.c.k0 2 Proc p.c.s0 encPr), .sy (.imm p.c.k1 2 Proc p.c.s1 encPr), .sy (.imm h4 2 Proc l4 encPr), .sy (.imm p.c.k3 2 Proc p.c.s3 encPr), .nilS]])) .leaf) (some (.blk false 68 8 [[.ptr 1 0, .sy (.int 0 p.c.d), .sy (.int 0 p.c.a), .nilS, .sy (.imm p.c.h0 2 Proc p.c.m0 encPr), .sy (.imm p.c.h1 2 Proc p.c.m1 encPr), .sy (.imm h3 2 Proc l3 encPr), .sy (.imm p.c.h3 2 Proc p.c.m3 encPr)]])) (.node .leaf (some (.map [] 0)) .leaf)) 3))))))))))))))) (iP (p.g = 3) (mP ((.sy (.imm p.c.h0 2 Proc p.c.m0 encPr) : AV) = (.sy (.imm p.c.h0 2 Proc p.c.m0 encPr) : AV)) (mP ((.sy (.imm p.c.k0 2 Proc p.c.s0 encPr) : AV) = (.sy (.imm p.c.k0 2 Proc p.c.s0 encPr) : AV)) (mP ((.sy (.imm p.c.h1 2 Proc p.c.m1 encPr) : AV) = (.sy (.imm p.c.h1 2 Proc p.c.m1 encPr) : AV)) (mP ((.sy (.imm p.c.k1 2 Proc p.c.s1 encPr) : AV) = (.sy (.imm p.c.k1 2 Proc p.c.s1 encPr) : AV)) (mP ((.sy (.imm p.c.h2 2 Proc p.c.m2 encPr) : AV) = (.sy (.imm p.c.h2 2 Proc p.c.m2 encPr) : AV)) (mP ((.sy (.imm p.c.k2 2 Proc p.c.s2 encPr) : AV) = (.sy (.imm p.c.k2 2 Proc p.c.s2 encPr) : AV)) (exB fun l1 : List Proc => mP (l1.map encPr = [[.sint 1 0, .sint 2 1], [.sint 1 1, .sint 2 1]]) (mP ((.sl 5 0 2 (.rest 0) : AV) = (.sl 5 0 2 (.rest 0) : AV)) (mP (l1.length = l1.length) (allB fun h1 : Value => mP ((.sy (.prow 8 l1.length) : AV) = (.sy (.prow 8 l1.length) : AV)) (exB fun l2 : List Proc => mP (l2.map encPr = [[.sint 1 0, .sint 2 1], [.sint 1 1, .sint 2 1]]) (mP ((.sl 7 0 2 (.rest 0) : AV) = (.sl 7 0 2 (.rest 0) : AV)) (mP (l2.length = l2.length) (allB fun h2 : Value => mP ((.sy (.prow 9 l2.length) : AV) = (.sy (.prow 9 l2.length) : AV)) (K (.tup []) (.node (.node .leaf (some (.blk false 85 12 [[.int 1 (.ofNat 9), .int 2 (.ofNat 1), .int 0 (.ofNat 1), .sy (.int 0 p.c.d), .sy (.int 0 p.c.a), .int 3 (.ofNat 1), .map 2, .sy (.imm p.c.k0 2 Proc p.c.s0 encPr), .sy (.imm p.c.k1 2 Proc p.c.s1 encPr), .sy (.imm p.c.k2 2 Proc p.c.s2 encPr), .sy (.imm h2 2 Proc l2 encPr), .nilS]])) .leaf) (some (.blk false 68 8 [[.ptr 1 0, .sy (.int 0 p.c.d), .sy (.int 0 p.c.a), .nilS, .sy (.imm p.c.h0 2 Proc p.c.m0 encPr), .sy (.imm p.c.h1 2 Proc p.c.m1 encPr), .sy (.imm p.c.h2 2 Proc p.c.m2 encPr), .sy (.imm h1 2 Proc l1 encPr)]])) (.node .leaf (some (.map [] 0)) .leaf)) 3))))))))))))))) (mP (False) (true)))))))) (by kernel_rfl) ?_
  obtain ⟨hK0, hKr0⟩ := must_ok hK
  obtain ⟨hK1, hKr1⟩ := must_ok hKr0
  obtain ⟨hK2, hKr2⟩ := must_ok hKr1
  obtain ⟨hK3, hKr3⟩ := must_ok hKr2
  have hK4 := hKr3
  dsimp only [pre_meet] at hpre
  refine iI (fun hc1 => ?_) (fun hc1 => ?_)
  refine mI (rfl) (mI (rfl) (mI (rfl) (mI (rfl) (mI (rfl) (mI (rfl) (mI (rfl) (mI (rfl) ?_)))))))
  exact ifB_use (show 4 ≤ p.g from (by omega)) hK0
  refine iI (fun hc2 => ?_) (fun hc2 => ?_)
  refine exB_mk [⟨0, 1⟩, ⟨1, 1⟩] ?_
  refine mI (rfl) (mI (rfl) (mI (rfl) ?_))
  refine allB_mk (fun h7 => ?_)
  refine mI (rfl) ?_
  refine exB_mk [⟨0, 1⟩, ⟨1, 1⟩] ?_
  refine mI (rfl) (mI (rfl) (mI (rfl) ?_))
  refine allB_mk (fun h8 => ?_)
  refine mI (rfl) (mI (rfl) (mI (rfl) (mI (rfl) (mI (rfl) (mI (rfl) (mI (rfl) ?_))))))
  exact ifB_use (show p.g = 0 ∧ [⟨0, 1⟩, ⟨1, 1⟩].length = 2 from (by exact ⟨by omega, by simp_all⟩)) (allB_ok hK1 (⟨h7, [⟨0, 1⟩, ⟨1, 1⟩], h8, [⟨0, 1⟩, ⟨1, 1⟩]⟩ : R_meet1))
  refine iI (fun hc3 => ?_) (fun hc3 => ?_)
  refine mI (rfl) (mI (rfl) ?_)
  refine exB_mk [⟨0, 1⟩, ⟨1, 1⟩] ?_
  refine mI (rfl) (mI (rfl) (mI (rfl) ?_))
  refine allB_mk (fun h5 => ?_)
  refine mI (rfl) ?_
  refine exB_mk [⟨0, 1⟩, ⟨1, 1⟩] ?_
  refine mI (rfl) (mI (rfl) (mI (rfl) ?_))
  refine allB_mk (fun h6 => ?_)
  refine mI (rfl) (mI (rfl) (mI (rfl) (mI (rfl) (mI (rfl) ?_))))
  exact ifB_use (show p.g = 1 ∧ [⟨0, 1⟩, ⟨1, 1⟩].length = 2 from (by exact ⟨by omega, by simp_all⟩)) (allB_ok hK2 (⟨h5, [⟨0, 1⟩, ⟨1, 1⟩], h6, [⟨0, 1⟩, ⟨1, 1⟩]⟩ : R_meet2))
  refine iI (fun hc4 => ?_) (fun hc4 => ?_)
  refine mI (rfl) (mI (rfl) (mI (rfl) (mI (rfl) ?_)))
  refine exB_mk [⟨0, 1⟩, ⟨1, 1⟩] ?_
  refine mI (rfl) (mI (rfl) (mI (rfl) ?_))
  refine allB_mk (fun h3 => ?_)
  refine mI (rfl) ?_
  refine exB_mk [⟨0, 1⟩, ⟨1, 1⟩] ?_
  refine mI (rfl) (mI (rfl) (mI (rfl) ?_))
  refine allB_mk (fun h4 => ?_)
  refine mI (rfl) (mI (rfl) (mI (rfl) ?_))
  exact ifB_use (show p.g = 2 ∧ [⟨0, 1⟩, ⟨1, 1⟩].length = 2 from (by exact ⟨by omega, by simp_all⟩)) (allB_ok hK3 (⟨h3, [⟨0, 1⟩, ⟨1, 1⟩], h4, [⟨0, 1⟩, ⟨1, 1⟩]⟩ : R_meet3))
  refine iI (fun hc5 => ?_) (fun hc5 => ?_)
  refine mI (rfl) (mI (rfl) (mI (rfl) (mI (rfl) (mI (rfl) (mI (rfl) ?_)))))
  refine exB_mk [⟨0, 1⟩, ⟨1, 1⟩] ?_
  refine mI (rfl) (mI (rfl) (mI (rfl) ?_))
  refine allB_mk (fun h1 => ?_)
  refine mI (rfl) ?_
  refine exB_mk [⟨0, 1⟩, ⟨1, 1⟩] ?_
  refine mI (rfl) (mI (rfl) (mI (rfl) ?_))
  refine allB_mk (fun h2 => ?_)
  refine mI (rfl) ?_
  exact ifB_use (show p.g = 3 ∧ [⟨0, 1⟩, ⟨1, 1⟩].length = 2 from (by exact ⟨by omega, by simp_all⟩)) (allB_ok hK4 (⟨h1, [⟨0, 1⟩, ⟨1, 1⟩], h2, [⟨0, 1⟩, ⟨1, 1⟩]⟩ : R_meet4))
  refine mI (by omega) ?_
  rfl
noncomputable def nat_meet := natC nat_knows 1 (esOf I_meet (spP pre_meet out_meet)) 7 []
theorem nat_meet_ok : NatsOk Try.prog nat_meet := natC_ok (natE_pl (f := 7) (k := 1) (cfT_ok nat_knows_ok) ft_meet_ok (by rfl) (by rfl) vf_meet) nat_knows_ok
end Go.Proofs.Try