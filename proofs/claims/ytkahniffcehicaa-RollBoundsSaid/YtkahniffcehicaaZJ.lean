/- The executor for symbolic runs: rows that are terms from now on, in slots and in memory. No condition: definitions and plain lemmas. -/
import Derived.Test.YtkahniffcehicaaZI
namespace Go.Sy
open Go Go.RowKit Go.Eng
section
variable {P : Program} {E : Env} {ρ : Ren} {G : GS} {F : List Chunk} {M : T} {nx : Nat} {w : World}
/-- A slice, nil or literal, is a row of terms. -/
noncomputable def bornV (v : AV) (Ty sz : Nat) (α : Type) (enc : α → List PL) (M : T) (nx : Nat) (K : AV → T → Nat → Bool) : Bool := ifB (isSy v) (asSy v fun s => SY.casesOn s (fun _ _ => false) (fun _ => false) (fun _ => false) (fun _ _ _ _ _ => false) (fun _ _ _ => false) (fun i n => prowOf M i fun Ty' sz' _ l _ => must (Nat.beq Ty Ty') (must (Nat.beq sz sz') (must (prB (l = [])) (T.set fuelT M i (some (.prow Ty sz α [] enc)) fun M' => K (.sy (.prow i n)) M' nx)))) (fun _ _ _ _ => false) (fun _ _ _ _ => false) (fun _ _ _ => false)) (asSl v
  (must (Nat.blt 0 sz) (T.set fuelT M nx (some (.prow Ty sz α [] enc)) fun M' => fN (Nat.succ nx) fun q => K (.sy (.prow nx 0)) M' q))
  (fun i o n c => must (Nat.beq o 0) (blkOf M i fun g Ty' sz' els => must (Nat.beq Ty Ty') (must (Nat.beq sz sz') (ACap.casesOn c
    (fun c => must (Bool.rec true false g) (must (Nat.beq n 0) (must (Nat.beq (lenL els) c) (must (Nat.ble c 9223372036854775807)
      (T.set fuelT M i none fun M1 => T.set fuelT M1 nx (some (.prow Ty sz α [] enc)) fun M' => fN (Nat.succ nx) fun q => K (.sy (.prow nx 0)) M' q)))))
    (fun k => must (Nat.beq k 0) (must g (must (Nat.beq (lenL els) n) (toPss els fun pss => exB fun l : List α => must (prB (l.map enc = pss))
      (T.set fuelT M i none fun M1 => T.set fuelT M1 nx (some (.prow Ty sz α l enc)) fun M' => fN (Nat.succ nx) fun q => K (.sy (.prow nx l.length)) M' q))))))))))
theorem Sim.nilRow (h : Sim E ρ G F M nx w) {M' : T} {Ty sz : Nat} {α : Type} {enc : α → List PL} (hsz : 0 < sz) (h1 : M'.get nx = some (.prow Ty sz α [] enc)) (h2 : ∀ m, m ≠ nx → M'.get m = M.get m) : Sim E (ρ.set nx ⟨0, 0⟩) G F M' (nx + 1) w := by
  have h0 := h.fresh nx (Nat.le_refl _)
  have hle := Ren.le_set (ρ := ρ) ⟨0, 0⟩ h0
  obtain ⟨c, hh, hob, hinj⟩ := h.ex
  refine ⟨⟨c, hh, fun j o hj => ?_, fun j k e f o o' hj hk he hf hb1 hb2 hb => ?_⟩, h.mem, fun j hj => ?_⟩
  · by_cases q : j = nx
    · subst q
      rw [h1] at hj; cases hj
      exact ⟨_, Ren.set_self _ _ _, .inr ⟨rfl, rfl, hsz⟩⟩
    · rw [h2 j q] at hj
      obtain ⟨e, a1, ⟨q1, ob, q2, q3⟩ | q1⟩ := hob j o hj
      · exact ⟨e, hle _ _ a1, .inl ⟨q1, ob, q2, q3.mono hle⟩⟩
      · exact ⟨e, hle _ _ a1, .inr q1⟩
  · have nb : ∀ m e o, M'.get m = some o → ρ.set nx ⟨0, 0⟩ m = some e → hasB e o = true → m ≠ nx := fun m e o q1 q2 q3 q4 => by
      subst q4
      rw [h1] at q1; cases q1
      rw [Ren.set_self] at q2; cases q2
      cases q3
    have nj := nb j e o hj he hb1
    have nk := nb k f o' hk hf hb2
    rw [h2 j nj] at hj
    rw [h2 k nk] at hk
    rw [Ren.set_ne _ nj] at he
    rw [Ren.set_ne _ nk] at hf
    exact hinj j k e f o o' hj hk he hf hb1 hb2 hb
  · rw [Ren.set_ne _ (by omega)]
    exact h.fresh j (by omega)
/-- An object under another number, and read otherwise. -/
theorem Sim.rekey (h : Sim E ρ G F M nx w) {i : Nat} {o o' : AObj} {e e' : REnt} {M' : T} (hi : M.get i = some o) (he : ρ i = some e) (hb : e'.b = e.b) (hB : hasB e o = true) (hB' : hasB e' o' = true) (hr : ∀ ob, ORel E ρ e o ob → ORel E ρ e' o' ob)
    (h1 : M'.get nx = some o') (h2 : ∀ m, m ≠ nx → m ≠ i → M'.get m = M.get m) (h3 : M'.get i = none) : Sim E (ρ.set nx e') G F M' (nx + 1) w := by
  have h0 := h.fresh nx (Nat.le_refl _)
  have hle := Ren.le_set (ρ := ρ) e' h0
  have hinx : i ≠ nx := fun q => by rw [q, h0] at he; cases he
  obtain ⟨c, hh, hob, hinj⟩ := h.ex
  refine ⟨⟨c, hh, fun j o2 hj => ?_, fun j k f1 f2 o1 o2 hj hk hf1 hf2 hb1 hb2 hbb => ?_⟩, h.mem, fun j hj => ?_⟩
  · by_cases q : j = nx
    · subst q
      rw [h1] at hj; cases hj
      obtain ⟨f, a1, ⟨q1, ob, q2, q3⟩ | ⟨q1, _⟩⟩ := hob i o hi
      · rw [he] at a1; cases a1
        exact ⟨e', Ren.set_self _ _ _, .inl ⟨hB', ob, by rw [hb]; exact q2, (hr ob q3).mono hle⟩⟩
      · rw [he] at a1; cases a1
        rw [hB] at q1; cases q1
    · have qi : j ≠ i := fun q => by subst q; rw [h3] at hj; cases hj
      rw [h2 j q qi] at hj
      obtain ⟨f, a1, ⟨q1, ob, q2, q3⟩ | q1⟩ := hob j o2 hj
      · exact ⟨f, hle _ _ a1, .inl ⟨q1, ob, q2, q3.mono hle⟩⟩
      · exact ⟨f, hle _ _ a1, .inr q1⟩
  · have old : ∀ m, m ≠ nx → ∀ o3, M'.get m = some o3 → m ≠ i ∧ M.get m = some o3 := fun m q o3 q2 => by
      have qi : m ≠ i := fun q => by subst q; rw [h3] at q2; cases q2
      exact ⟨qi, by rw [← h2 m q qi]; exact q2⟩
    by_cases q1 : j = nx
    · by_cases q2 : k = nx
      · omega
      · exfalso
        subst q1
        rw [Ren.set_self] at hf1; cases hf1
        rw [Ren.set_ne _ q2] at hf2
        obtain ⟨p1, p2⟩ := old k q2 o2 hk
        exact p1 (hinj k i f2 e o2 o p2 hi hf2 he hb2 hB (by rw [← hb, hbb]))
    · by_cases q2 : k = nx
      · exfalso
        subst q2
        rw [Ren.set_self] at hf2; cases hf2
        rw [Ren.set_ne _ q1] at hf1
        obtain ⟨p1, p2⟩ := old j q1 o1 hj
        exact p1 (hinj j i f1 e o1 o p2 hi hf1 he hb1 hB (by rw [hbb, hb]))
      · rw [Ren.set_ne _ q1] at hf1
        rw [Ren.set_ne _ q2] at hf2
        exact hinj j k f1 f2 o1 o2 (old j q1 o1 hj).2 (old k q2 o2 hk).2 hf1 hf2 hb1 hb2 hbb
  · rw [Ren.set_ne _ (by omega)]
    exact h.fresh j (by omega)
/-- Another object in a place, that the same block is. -/
theorem Sim.reobj (h : Sim E ρ G F M nx w) {i : Nat} {o o' : AObj} (hi : M.get i = some o) (hB : ∀ e, hasB e o' = hasB e o) (hr : ∀ e ob, ρ i = some e → ORel E ρ e o ob → ORel E ρ e o' ob) (hn : NilO o → NilO o') {M' : T} (h1 : M'.get i = some o') (h2 : ∀ m, m ≠ i → M'.get m = M.get m) : Sim E ρ G F M' nx w := by
  obtain ⟨c, hh, hob, hinj⟩ := h.ex
  have old : ∀ m o2, M'.get m = some o2 → ∃ o3, M.get m = some o3 ∧ ∀ e, hasB e o2 = hasB e o3 := fun m o2 hm => by
    by_cases q1 : m = i
    · subst q1
      rw [h1] at hm; cases hm
      exact ⟨_, hi, hB⟩
    · rw [h2 m q1] at hm
      exact ⟨o2, hm, fun e => rfl⟩
  refine ⟨⟨c, hh, fun m o2 hm => ?_, fun m k e f o2 o3 hm hk he hf hb1 hb2 hb => ?_⟩, h.mem, h.fresh⟩
  · by_cases q1 : m = i
    · subst q1
      rw [h1] at hm; cases hm
      obtain ⟨e, a1, ⟨b1, ob, b2, b3⟩ | ⟨b1, b2⟩⟩ := hob m _ hi
      · exact ⟨e, a1, .inl ⟨by rw [hB]; exact b1, ob, b2, hr e ob a1 b3⟩⟩
      · exact ⟨e, a1, .inr ⟨by rw [hB]; exact b1, hn b2⟩⟩
    · rw [h2 m q1] at hm
      exact hob m o2 hm
  · obtain ⟨o4, f1, f2⟩ := old m o2 hm
    obtain ⟨o5, f3, f4⟩ := old k o3 hk
    rw [f2] at hb1
    rw [f4] at hb2
    exact hinj m k e f o4 o5 f1 f3 he hf hb1 hb2 hb
theorem bornV_ok (h : Sim E ρ G F M nx w) {v : AV} {Ty sz : Nat} {α : Type} {enc : α → List PL} {K : AV → T → Nat → Bool} (hk : bornV v Ty sz α enc M nx K = true) :
    ∃ v' M' nx' ρ', ρ.Le ρ' ∧ Sim E ρ' G F M' nx' w ∧ K v' M' nx' = true ∧ (∀ x, den E ρ v = some x → den E ρ' v' = some x) ∧ v ≠ .bad := by
  have h0 := h.fresh nx (Nat.le_refl _)
  rcases ifB_ok hk with ⟨-, g⟩ | ⟨-, hk⟩
  · replace g := asSy_ok g
    clear hk
    obtain ⟨s, rfl, g⟩ := g
    cases s <;> first | (cases g; done) | skip
    case prow i n =>
      obtain ⟨Ty', sz', α', l, enc', hi, g1⟩ := prowOf_ok g
      obtain ⟨q1, g2⟩ := must_ok g1
      obtain ⟨q2, g3⟩ := must_ok g2
      have q1 := Nat.eq_of_beq_eq_true q1
      have q2 := Nat.eq_of_beq_eq_true q2
      subst q1; subst q2
      obtain ⟨hl, g4⟩ := mustP_ok g3
      subst hl
      obtain ⟨M', g5, s1, s2⟩ := T.set_ok _ _ _ _ _ g4
      refine ⟨_, M', nx, ρ, Ren.Le.refl _, h.reobj (o' := .prow Ty sz α [] enc) hi (fun e => rfl) (fun e ob _ hr => ?_) (fun q => ⟨rfl, q.2⟩) s1 s2, g5, fun x hx => hx, by simp⟩
      obtain ⟨arr, xs, o1, o2, o3, o4, o5, o6, o7⟩ := hr
      exact ⟨arr, xs, o1, o2, fun y hy => (by simp at hy), by simpa using o4, o5, o6, o7⟩
  rcases asSl_ok hk with ⟨e, g⟩ | ⟨i, o, n, c, e, g⟩
  · obtain ⟨g1, g2⟩ := must_ok g
    rw [Nat.blt_eq] at g1
    obtain ⟨M', k1, s1, s2⟩ := T.set_ok _ _ _ _ _ g2
    rw [fN_eq] at k1
    have hle := Ren.le_set (ρ := ρ) ⟨0, 0⟩ h0
    refine ⟨_, M', nx + 1, _, hle, h.nilRow g1 s1 s2, k1, (fun x hx => ?_), (by rw [e]; simp)⟩
    rw [e] at hx
    cases hx
    simp [den, denS, Ren.set_self, hdrP]
  · obtain ⟨q2, g2⟩ := must_ok g
    have q2 := Nat.eq_of_beq_eq_true q2
    subst q2
    obtain ⟨gr, Ty', sz', els, hi, g3⟩ := blkOf_ok g2
    obtain ⟨q4, g5⟩ := must_ok g3
    obtain ⟨q5, g6⟩ := must_ok g5
    have q4 := Nat.eq_of_beq_eq_true q4
    have q5 := Nat.eq_of_beq_eq_true q5
    subst q4; subst q5
    obtain ⟨f, arr, xs, e1, e2, e3, e4, e5, e6, e7, e8, e9⟩ := h.cellsAt hi
    have hinx : i ≠ nx := fun q => by rw [q, h0] at e1; cases e1
    cases c with
    | ex c =>
      obtain ⟨q1, g7⟩ := must_ok g6
      obtain ⟨q3, g8⟩ := must_ok g7
      obtain ⟨q6, g9⟩ := must_ok g8
      obtain ⟨q7, g10⟩ := must_ok g9
      have q1 : gr = false := by cases gr; rfl; cases q1
      subst q1
      have q3 := Nat.eq_of_beq_eq_true q3
      subst q3
      have q6 : els.length = c := by rw [← lenL_eq]; exact Nat.eq_of_beq_eq_true q6
      rw [Nat.ble_eq] at q7
      obtain ⟨M1, k1, s1, s2⟩ := T.set_ok _ _ _ _ _ g10
      obtain ⟨M', k2, s3, s4⟩ := T.set_ok _ _ _ _ _ k1
      rw [fN_eq] at k2
      have hle := Ren.le_set (ρ := ρ) ⟨f.b, c + 1⟩ h0
      refine ⟨_, M', nx + 1, _, hle, h.rekey (o' := .prow Ty sz α [] enc) (e' := ⟨f.b, c + 1⟩) hi e1 rfl rfl (hasB_prow rfl) (fun ob hr => ?_) s3 (fun m a1 a2 => by rw [s4 m a1, s2 m a2]) (by rw [s4 i hinx, s1]), k2, (fun x hx => ?_), (by rw [e]; simp)⟩
      · obtain ⟨_, _, arr', xs', o1, o2, o3⟩ := hr
        simp only [cond_false] at o3
        have hl := denL_len o2
        rw [flat_len e4, ← o3, Array.length_toList] at hl
        refine ⟨arr', [], o1, e5, fun y hy => (by simp at hy), by simp [denPs], ?_, by simp, by simp, by simpa [maxLen] using q7⟩
        simp only [Nat.add_sub_cancel]
        rw [hl, q6]
      · rw [e] at hx
        simp only [den, e1, capOf] at hx
        cases hx
        simp [den, denS, Ren.set_self, hdrP]
    | rest k =>
      obtain ⟨q1, g7⟩ := must_ok g6
      have q1 := Nat.eq_of_beq_eq_true q1
      subst q1
      obtain ⟨q3, g8⟩ := must_ok g7
      subst q3
      obtain ⟨q6, g9⟩ := must_ok g8
      have q6 : els.length = n := by rw [← lenL_eq]; exact Nat.eq_of_beq_eq_true q6
      obtain ⟨p1, p2, p3⟩ := e9 rfl
      obtain ⟨pss, g10, r1, r2, r3, r4⟩ := toPss_ok e3 e4 g9
      obtain ⟨l, g11⟩ := exB_ok g10
      obtain ⟨hl, g12⟩ := mustP_ok g11
      obtain ⟨M1, k1, s1, s2⟩ := T.set_ok _ _ _ _ _ g12
      obtain ⟨M', k2, s3, s4⟩ := T.set_ok _ _ _ _ _ k1
      rw [fN_eq] at k2
      have hle := Ren.le_set (ρ := ρ) ⟨f.b, f.cap + 1⟩ h0
      have hlen : l.length = els.length := by rw [← r4, ← hl, List.length_map]
      refine ⟨_, M', nx + 1, _, hle, h.rekey (o' := .prow Ty sz α l enc) (e' := ⟨f.b, f.cap + 1⟩) hi e1 rfl rfl (hasB_prow rfl) (fun ob hr => ?_) s3 (fun m a1 a2 => by rw [s4 m a1, s2 m a2]) (by rw [s4 i hinx, s1]), k2, (fun x hx => ?_), (by rw [e]; simp)⟩
      · obtain ⟨_, _, arr', xs', o1, o2, o3⟩ := hr
        rw [e3] at o2
        cases o2
        simp only [cond_true] at o3
        obtain ⟨u1, u2, u3, u4⟩ := o3
        have hx : xs = (l.flatMap enc).map valP := by rw [r1, ← hl, List.flatMap_def]
        refine ⟨arr', xs, o1, e5, fun y hy => r3 _ (by rw [← hl]; exact List.mem_map.2 ⟨y, hy, rfl⟩), by rw [hx]; exact denPs_mk (fun p hp => r2 p (by rw [← hl, ← List.flatMap_def]; exact hp)), by simpa using u1, by rw [hlen]; exact u2, by rw [hlen]; simpa using u3, by simpa using u4⟩
      · rw [e] at hx
        simp only [den, e1, capOf] at hx
        cases hx
        simp [den, denS, Ren.set_self, hdrP, hlen, q6]
noncomputable def bornX (t Ty sz : Nat) (α : Type) (enc : α → List PL) (S : SL) (M : T) (nx : Nat) (K : SL → T → Nat → Bool) : Bool := bornV (getS t S) Ty sz α enc M nx fun v M nx => K (.cons t v S) M nx
theorem bornX_ok {N : Nat} {S : SL} {a : Act} (s : SR E ρ N S a) (h : Sim E ρ G F M nx w) {t Ty sz : Nat} {α : Type} {enc : α → List PL} {K : SL → T → Nat → Bool} (hk : bornX t Ty sz α enc S M nx K = true) :
    ∃ S' M' nx' ρ', ρ.Le ρ' ∧ SR E ρ' N S' a ∧ Sim E ρ' G F M' nx' w ∧ K S' M' nx' = true := by
  obtain ⟨v', M', nx', ρ', hl, h1, h2, h3, h4⟩ := bornV_ok h hk
  refine ⟨_, M', nx', ρ', hl, ⟨s.size, s.defs, fun u => ?_⟩, h1, h2⟩
  by_cases q : t = u
  · subst q
    rw [getS_self]
    obtain ⟨x, q1, q2⟩ := (s.at_ t).resolve_left h4
    exact .inr ⟨x, h3 x q1, q2⟩
  · rw [getS_ne _ _ q]
    exact (s.mono hl).at_ u
/-- Another value in a cell that means the same. -/
theorem Sim.swap (h : Sim E ρ G F M nx w) {i q r : Nat} {g : Bool} {Ty sz : Nat} {els : List (List AV)} {el : List AV} {v v' : AV} (hi : M.get i = some (.blk g Ty sz els)) (hq : els[q]? = some el) (hr : el[r]? = some v)
    (hv : ∀ x, den E ρ v = some x → den E ρ v' = some x) {M' : T} (h1 : M'.get i = some (.blk g Ty sz (els.take q ++ [el.take r ++ [v'] ++ el.drop (r + 1)] ++ els.drop (q + 1)))) (h2 : ∀ m, m ≠ i → M'.get m = M.get m) : Sim E ρ G F M' nx w := by
  obtain ⟨c, hh, hob, hinj⟩ := h.ex
  have hle1 := (List.getElem?_eq_some_iff.1 hq).1
  have hle2 := (List.getElem?_eq_some_iff.1 hr).1
  have old : ∀ m o, M'.get m = some o → ∃ o2, M.get m = some o2 ∧ ∀ e, hasB e o = hasB e o2 := fun m o hm => by
    by_cases q1 : m = i
    · subst q1
      rw [h1] at hm; cases hm
      exact ⟨_, hi, fun e => rfl⟩
    · rw [h2 m q1] at hm
      exact ⟨o, hm, fun e => rfl⟩
  refine ⟨⟨c, hh, fun m o hm => ?_, fun m k e f o o' hm hk he hf hb1 hb2 hb => ?_⟩, h.mem, h.fresh⟩
  · by_cases q1 : m = i
    · subst q1
      rw [h1] at hm; cases hm
      obtain ⟨e, a1, ⟨b1, ob, b2, b3⟩ | ⟨b1, b2⟩⟩ := hob m _ hi
      · refine ⟨e, a1, .inl ⟨rfl, ob, b2, ?_⟩⟩
        obtain ⟨c1, c2, arr, xs, c3, c4, c5⟩ := b3
        have hel : ∀ l ∈ els.take q ++ [el.take r ++ [v'] ++ el.drop (r + 1)] ++ els.drop (q + 1), l.length = sz := by
          intro l hl
          simp only [List.mem_append, List.mem_singleton] at hl
          have := c1 el (List.mem_of_getElem? hq)
          rcases hl with (hl | rfl) | hl
          · exact c1 l (List.mem_of_mem_take hl)
          · simp only [List.length_append, List.length_take, List.length_drop, List.length_singleton]; omega
          · exact c1 l (List.mem_of_mem_drop hl)
        have hlen : (els.take q ++ [el.take r ++ [v'] ++ el.drop (r + 1)] ++ els.drop (q + 1)).length = els.length := by
          simp only [List.length_append, List.length_take, List.length_drop, List.length_singleton]; omega
        have e1 : els = els.take q ++ [el] ++ els.drop (q + 1) := by
          rw [List.append_assoc, List.singleton_append]
          have := List.take_append_drop q els
          rw [List.drop_eq_getElem_cons hle1] at this
          rw [← (List.getElem?_eq_some_iff.1 hq).2]; exact this.symm
        have e2 : el = el.take r ++ [v] ++ el.drop (r + 1) := by
          rw [List.append_assoc, List.singleton_append]
          have := List.take_append_drop r el
          rw [List.drop_eq_getElem_cons hle2] at this
          rw [← (List.getElem?_eq_some_iff.1 hr).2]; exact this.symm
        have hd : denL E ρ (els.take q ++ [el.take r ++ [v'] ++ el.drop (r + 1)] ++ els.drop (q + 1)).flatten = some xs := by
          rw [e1] at c4
          simp only [List.flatten_append, List.flatten_cons, List.flatten_nil, List.append_nil] at c4 ⊢
          obtain ⟨y1, z1, d1, d2, rfl⟩ := denL_split c4
          obtain ⟨y2, z2, d3, d4, rfl⟩ := denL_split d1
          rw [e2] at d4
          obtain ⟨y3, z3, d5, d6, rfl⟩ := denL_split d4
          obtain ⟨y4, z4, d7, d8, rfl⟩ := denL_split d5
          obtain ⟨x, _, d9, d10, rfl⟩ := denL_cons d8
          refine denL_app (denL_app d3 (denL_app (denL_app d7 ?_) d6)) d2
          exact denL_mk (hv x d9) d10
        refine ⟨hel, c2, arr, xs, c3, hd, ?_⟩
        rw [hlen]; exact c5
      · cases b1
    · rw [h2 m q1] at hm
      exact hob m o hm
  · obtain ⟨o2, f1, f2⟩ := old m o hm
    obtain ⟨o3, f3, f4⟩ := old k o' hk
    rw [f2] at hb1
    rw [f4] at hb2
    exact hinj m k e f o2 o3 f1 f3 he hf hb1 hb2 hb
/-- The slice in a cell is a row of terms from now on: object i, its q-th element, the r-th cell there. -/
noncomputable def cellX (i q r Ty sz : Nat) (α : Type) (enc : α → List PL) (M : T) (nx : Nat) (K : T → Nat → Bool) : Bool :=
  blkOf M i fun _ _ _ els => atO (nth els q) fun el => atO (nth el r) fun v => bornV v Ty sz α enc M nx fun v' M' nx' => blkOf M' i fun g T2 s2 els => atO (nth els q) fun el' => atO (nth el' r) fun v2 => must (prB (v2 = v))
    (upd el' r [v'] fun e2 => upd els q [e2] fun els2 => T.set fuelT M' i (some (.blk g T2 s2 els2)) fun M2 => K M2 nx')
theorem cellX_ok (h : Sim E ρ G F M nx w) {i q r Ty sz : Nat} {α : Type} {enc : α → List PL} {K : T → Nat → Bool} (hk : cellX i q r Ty sz α enc M nx K = true) :
    ∃ M' nx' ρ', ρ.Le ρ' ∧ Sim E ρ' G F M' nx' w ∧ K M' nx' = true := by
  obtain ⟨g, T1, s1, els, h1, hk⟩ := blkOf_ok hk
  obtain ⟨el, h2, hk⟩ := atO_ok hk
  obtain ⟨v, h3, hk⟩ := atO_ok hk
  obtain ⟨v', M', nx', ρ', le, sm, hk, hv, hb⟩ := bornV_ok h hk
  obtain ⟨g, T2, s2, els2, h4, hk⟩ := blkOf_ok hk
  obtain ⟨el2, h5, hk⟩ := atO_ok hk
  obtain ⟨v2, h6, hk⟩ := atO_ok hk
  obtain ⟨hvv, hk2⟩ := mustP_ok hk
  obtain ⟨hk3, l1⟩ := upd_ok hk2
  obtain ⟨hk4, l2⟩ := upd_ok hk3
  obtain ⟨M2, hk5, g1, g2⟩ := T.set_ok _ _ _ _ _ hk4
  clear hk hk2 hk3 hk4
  subst hvv
  rw [nth_eq] at h2 h3 h5 h6
  refine ⟨M2, nx', ρ', le, sm.swap h4 h5 h6 (fun x hx => ?_) g1 g2, hk5⟩
  -- the cell's value is known already in the old numbers
  obtain ⟨e, arr, xs, e1, e2, e3, e4, e5, e6, e7, e8, e9⟩ := h.cellsAt h1
  have hmem : v2 ∈ els.flatten := List.mem_flatten.2 ⟨el, List.mem_of_getElem? h2, List.mem_of_getElem? h3⟩
  obtain ⟨k, hk2⟩ := List.mem_iff_getElem?.1 hmem
  obtain ⟨y, y1, _⟩ := denL_at e3 hk2
  have := den_mono le v2 y y1
  rw [this] at hx
  cases hx
  exact hv _ y1
noncomputable def frc0 (v : AV) (K : AV → Bool) : Bool := AV.casesOn v (K .bad) (fun k z => K (.int k z)) (fun b => K (.bool b)) (fun l => K (.str l)) (fun i o => K (.ptr i o)) (fun i o n c => K (.sl i o n c)) (fun i => K (.map i)) (K .nilP) (K .nilS) (K .nilM) (K .nilF) (K .nilI) (fun t v => K (.iface t v)) (fun f c => K (.fn f c)) (fun i => K (.yl i)) (fun l => K (.agg l)) (fun l => K (.tup l)) (fun i => K (.any i)) (fun s => K (.sy s))
theorem frc0_ok {v : AV} {K : AV → Bool} (h : frc0 v K = true) : K v = true := by
  cases v <;> exact h
/-- A literal as a term. -/
noncomputable def upV (v : AV) : AV := AV.casesOn v .bad (fun k z => .sy (.int k z)) (fun b => .sy (.bool (b = true))) (fun l => .sy (.str (l.map UInt8.ofNat))) (fun i o => .ptr i o) (fun i o n c => .sl i o n c) (fun i => .map i) .nilP .nilS .nilM .nilF .nilI (fun t v => .iface t v) (fun f c => .fn f c) (fun i => .yl i) (fun l => .agg l) (fun l => .tup l) (fun i => .any i) (fun s => .sy s)
theorem upV_den {v : AV} {x : Value} (h : den E ρ v = some x) : den E ρ (upV v) = some x := by
  cases v <;> first | exact h | skip
  case bool b =>
    simp only [den] at h
    cases h
    show denS E ρ (.bool (b = true)) = _
    simp only [denS, prB_bool]
noncomputable def upX (t : Nat) (S : SL) (K : SL → Bool) : Bool := frc0 (upV (getS t S)) fun v => K (.cons t v S)
theorem upX_ok {N : Nat} {S : SL} {a : Act} (s : SR E ρ N S a) {t : Nat} {K : SL → Bool} (hk : upX t S K = true) : ∃ S', SR E ρ N S' a ∧ K S' = true := by
  have hk := frc0_ok hk
  refine ⟨_, ⟨s.size, s.defs, fun u => ?_⟩, hk⟩
  by_cases q : t = u
  · subst q
    rw [getS_self]
    rcases s.at_ t with q | ⟨x, q1, q2⟩
    · rw [q]; exact .inl rfl
    · exact .inr ⟨x, upV_den q1, q2⟩
  · rw [getS_ne _ _ q]
    exact s.at_ u
noncomputable def upcX (i q r : Nat) (M : T) (K : T → Bool) : Bool := blkOf M i fun g Ty sz els => atO (nth els q) fun el => atO (nth el r) fun v => frc0 (upV v) fun v' => upd el r [v'] fun e2 => upd els q [e2] fun els2 => T.set fuelT M i (some (.blk g Ty sz els2)) K
theorem upcX_ok (h : Sim E ρ G F M nx w) {i q r : Nat} {K : T → Bool} (hk : upcX i q r M K = true) : ∃ M', Sim E ρ G F M' nx w ∧ K M' = true := by
  obtain ⟨g, Ty, sz, els, h1, hk⟩ := blkOf_ok hk
  obtain ⟨el, h2, hk⟩ := atO_ok hk
  obtain ⟨v, h3, hk⟩ := atO_ok hk
  have hk := frc0_ok hk
  obtain ⟨hk, l1⟩ := upd_ok hk
  obtain ⟨hk, l2⟩ := upd_ok hk
  obtain ⟨M2, hk, g1, g2⟩ := T.set_ok _ _ _ _ _ hk
  rw [nth_eq] at h2 h3
  exact ⟨M2, h.swap h1 h2 h3 (fun x hx => upV_den hx) g1 g2, hk⟩
/-- Another value in a map's entry that means the same. -/
theorem Sim.swapM (h : Sim E ρ G F M nx w) {i : Nat} {es es' : List (AV × AV × Nat)} {cl : Nat} (hi : M.get i = some (.map es cl)) (hv : ∀ ms, denE E ρ es = some ms → denE E ρ es' = some ms) {M' : T} (h1 : M'.get i = some (.map es' cl)) (h2 : ∀ m, m ≠ i → M'.get m = M.get m) : Sim E ρ G F M' nx w := by
  obtain ⟨c, hh, hob, hinj⟩ := h.ex
  have old : ∀ m o, M'.get m = some o → ∃ o2, M.get m = some o2 ∧ ∀ e, hasB e o = hasB e o2 := fun m o hm => by
    by_cases q1 : m = i
    · subst q1
      rw [h1] at hm; cases hm
      exact ⟨_, hi, fun e => rfl⟩
    · rw [h2 m q1] at hm
      exact ⟨o, hm, fun e => rfl⟩
  refine ⟨⟨c, hh, fun m o hm => ?_, fun m k e f o o' hm hk he hf hb1 hb2 hb => ?_⟩, h.mem, h.fresh⟩
  · by_cases q1 : m = i
    · subst q1
      rw [h1] at hm; cases hm
      obtain ⟨e, a1, ⟨b1, ob, b2, b3⟩ | ⟨b1, b2⟩⟩ := hob m _ hi
      · obtain ⟨ms, c1, c2⟩ := b3
        exact ⟨e, a1, .inl ⟨rfl, ob, b2, ms, hv ms c1, c2⟩⟩
      · cases b1
    · rw [h2 m q1] at hm
      exact hob m o hm
  · obtain ⟨o2, f1, f2⟩ := old m o hm
    obtain ⟨o3, f3, f4⟩ := old k o' hk
    rw [f2] at hb1
    rw [f4] at hb2
    exact hinj m k e f o2 o3 f1 f3 he hf hb1 hb2 hb
noncomputable def upE (es : List (AV × AV × Nat)) (K : List (AV × AV × Nat) → Bool) : Bool := List.rec (motive := fun _ => (List (AV × AV × Nat) → Bool) → Bool) (fun K => K []) (fun e _ ih K => frc0 (upV e.2.1) fun v => ih fun l => K ((e.1, v, e.2.2) :: l)) es K
theorem upE_ok : ∀ {es : List (AV × AV × Nat)} {K : List (AV × AV × Nat) → Bool}, upE es K = true → ∃ es', K es' = true ∧ ∀ ms, denE E ρ es = some ms → denE E ρ es' = some ms
  | [], K, h => ⟨[], h, fun ms q => q⟩
  | (k, v, b) :: es, K, h => by
    have h1 := frc0_ok (show frc0 (upV v) (fun v => upE es fun l => K ((k, v, b) :: l)) = true from h)
    obtain ⟨es', h2, h3⟩ := upE_ok h1
    refine ⟨_, h2, fun ms q => ?_⟩
    obtain ⟨x, y, ms', q1, q2, q3, rfl⟩ := denE_cons q
    simp only [denE, q1, upV_den q2, h3 _ q3]
/-- A map's values as terms. -/
noncomputable def upmX (i : Nat) (M : T) (K : T → Bool) : Bool := mapOf M i fun es cl => upE es fun es' => T.set fuelT M i (some (.map es' cl)) K
theorem upmX_ok (h : Sim E ρ G F M nx w) {i : Nat} {K : T → Bool} (hk : upmX i M K = true) : ∃ M', Sim E ρ G F M' nx w ∧ K M' = true := by
  obtain ⟨es, cl, h1, hk⟩ := mapOf_ok hk
  obtain ⟨es', hk, h2⟩ := upE_ok (E := E) (ρ := ρ) hk
  obtain ⟨M2, hk, g1, g2⟩ := T.set_ok _ _ _ _ _ hk
  exact ⟨M2, h.swapM h1 h2 g1 g2, hk⟩
/-- A slot's number is one of the first n. -/
noncomputable def fixX (t n : Nat) (S : SL) (K : SL → Bool) : Bool := AV.casesOn (getS t S) false (fun _ _ => K S) (fun _ => false) (fun _ => false) (fun _ _ => false) (fun _ _ _ _ => false) (fun _ => false) false false false false false (fun _ _ => false) (fun _ _ => false) (fun _ => false) (fun _ => false) (fun _ => false) (fun _ => false)
  (fun s => SY.casesOn s (fun k z => fork n z (fun j => fN j fun j => K (.cons t (.int k (Int.ofNat j)) S)) 0) (fun _ => false) (fun _ => false) (fun _ _ _ _ _ => false) (fun _ _ _ => false) (fun _ _ => false) (fun _ _ _ _ => false) (fun _ _ _ _ => false) (fun _ _ _ => false))
theorem fixX_ok {N : Nat} {S : SL} {a : Act} (s : SR E ρ N S a) {t n : Nat} {K : SL → Bool} (hk : fixX t n S K = true) : ∃ S', SR E ρ N S' a ∧ K S' = true := by
  unfold fixX at hk
  generalize e : getS t S = v at hk
  cases v <;> first | (cases hk; done) | exact ⟨S, s, hk⟩ | skip
  case sy s' =>
    cases s' <;> first | (cases hk; done) | skip
    case int k z =>
      obtain ⟨j, h1, _, h2⟩ := fork_ok (show fork n z (fun j => fN j fun j => K (.cons t (.int k (Int.ofNat j)) S)) 0 = true from hk)
      rw [fN_eq] at h2
      refine ⟨_, ⟨s.size, s.defs, fun u => ?_⟩, h2⟩
      by_cases q : t = u
      · subst q
        rw [getS_self]
        rcases s.at_ t with q | ⟨x, q1, q2⟩
        · rw [e] at q; cases q
        · refine .inr ⟨x, ?_, q2⟩
          rw [e] at q1
          rw [← q1, h1]
          rfl
      · rw [getS_ne _ _ q]
        exact s.at_ u
end
end Go.Sy
