/- The executor for symbolic runs: appending. No condition: definitions and plain lemmas. -/
import Derived.Test.YtkahniffcehicaaZG
namespace Go.Sy
open Go Go.RowKit Go.Eng

section
variable {P : Program} {E : Env} {ρ : Ren} {G : GS} {F : List Chunk} {M : T} {nx : Nat} {w : World}

/-! ### What is appended -/
/-- What a source of elements is in memory. -/
structure SrcAt (E : Env) (w : World) (x : Value) (sz m : Nat) (ps : List PL) : Prop where
  form : ∃ ao c, x = .slice ao m c ∧ (0 < m → ∃ b o, ao = some ⟨b, o, none⟩ ∧ ∀ j u, (ps.map valP)[j]? = some u → w.cell? ⟨b, o + j, none⟩ = some u)
  len : ps.length = m * sz
  ok : ∀ p ∈ ps, OkP E.M p
noncomputable def srcS (sz : Nat) (v : AV) (M : T) (K : (α : Type) → List α → (α → List PL) → Bool) : Bool := asSy v fun s => SY.casesOn s (fun _ _ => false) (fun _ => false) (fun _ => false)
  (fun _ sz' α l enc => must (Nat.beq sz sz') (K α l enc)) (fun _ _ _ => false)
  (fun i n => prowOf M i fun _ sz' α l enc => must (Nat.beq sz sz') (must (prB (n = l.length)) (K α l enc)))
  (fun i sz0 a n => prowOf M i fun _ sz' α l enc => must (Nat.beq sz sz') (must (Nat.beq sz sz0) (must (prB (a + n ≤ l.length)) (K α ((l.drop a).take n) enc))))
  (fun _ _ _ _ => false)
  (fun i n _ => prowOf M i fun _ sz' α l enc => must (Nat.beq sz sz') (must (prB (n = l.length)) (K α l enc)))
theorem RowAt.cells {e : REnt} {Ty sz n c : Nat} {ps : List PL} {arr : Array Value} (r : RowAt E w e Ty sz ps n c arr) (a : Nat) : ∀ j v, ((ps.drop a).map valP)[j]? = some v → w.cell? ⟨e.b, a + j, none⟩ = some v := fun j v hv => by
  rw [List.map_drop, List.getElem?_drop] at hv
  exact r.cell hv
theorem flatMap_drop {α : Type} {enc : α → List PL} {sz : Nat} : ∀ {l : List α} (a : Nat), (∀ x ∈ l, (enc x).length = sz) → (l.drop a).flatMap enc = (l.flatMap enc).drop (a * sz)
  | l, 0, _ => by simp
  | [], a + 1, _ => by simp
  | x :: l, a + 1, h => by
    rw [List.drop_succ_cons, flatMap_drop a fun y hy => h y (by simp [hy]), List.flatMap_cons, List.drop_append, List.drop_eq_nil_of_le (as := enc x) (by rw [h x (by simp), Nat.add_mul]; omega), h x (by simp)]
    rw [show (a + 1) * sz - sz = a * sz by rw [Nat.add_mul]; omega]
    simp
theorem flatMap_take {α : Type} {enc : α → List PL} {sz : Nat} : ∀ {l : List α} (a : Nat), (∀ x ∈ l, (enc x).length = sz) → (l.take a).flatMap enc = (l.flatMap enc).take (a * sz)
  | l, 0, _ => by simp
  | [], a + 1, _ => by simp
  | x :: l, a + 1, h => by
    rw [List.take_succ_cons, List.flatMap_cons, flatMap_take a fun y hy => h y (by simp [hy]), List.flatMap_cons, List.take_append, List.take_of_length_le (l := enc x) (by rw [h x (by simp), Nat.add_mul]; omega), h x (by simp)]
    rw [show (a + 1) * sz - sz = a * sz by rw [Nat.add_mul]; omega]
theorem srcS_ok (h : Sim E ρ G F M nx w) {sz : Nat} {v : AV} {K : (α : Type) → List α → (α → List PL) → Bool} {x : Value} (hv : den E ρ v = some x) (hk : srcS sz v M K = true) :
    ∃ α l enc, K α l enc = true ∧ (∀ x ∈ l, (enc x).length = sz) ∧ 0 < sz ∧ SrcAt E w x sz l.length (l.flatMap enc) := by
  replace hk := asSy_ok hk
  obtain ⟨s, rfl, g⟩ := hk
  cases s <;> first | (cases g; done) | skip
  case imm hh sz' α l enc =>
    obtain ⟨g1, g2⟩ := must_ok g
    have g1 := Nat.eq_of_beq_eq_true g1
    subst g1
    obtain ⟨h1, rfl⟩ := denP_some (show denP E (.imm hh sz α l enc) = some x from hv)
    obtain ⟨ao, cap, rfl, c1, c2, c3, ha, hl, ho, hr⟩ := okImm h1
    refine ⟨α, l, enc, g2, hl, c3, ⟨ao, cap, rfl, fun q => ⟨_, _, ha q, fun j u hu => ?_⟩⟩, flatMap_len hl, fun p hp => ?_⟩
    · rw [List.getElem?_map] at hu
      rcases hp : (l.flatMap enc)[j]? with _ | p
      · rw [hp] at hu; cases hu
      rw [hp] at hu
      have hj := (List.getElem?_eq_some_iff.1 hp).1
      rw [flatMap_len hl] at hj
      have hq : j / sz < l.length := Nat.div_lt_of_lt_mul (by rw [Nat.mul_comm]; exact hj)
      have hx : l[j / sz]? = some l[j / sz] := List.getElem?_eq_getElem hq
      have hm := Nat.mod_lt j c3
      have hp2 : (enc l[j / sz])[j % sz]? = some ((enc l[j / sz])[j % sz]'(by rw [hl _ (List.getElem_mem hq)]; exact hm)) := List.getElem?_eq_getElem _
      have h3 := flatMap_at hl hx hp2
      have e0 : j / sz * sz + j % sz = j := by rw [Nat.mul_comm]; exact Nat.div_add_mod j sz
      rw [e0, hp] at h3
      have h4 := hr (j / sz) _ hx (j % sz) u (by rw [List.getElem?_map, hp2, ← Option.some.inj h3]; exact hu)
      rw [Nat.add_assoc, e0] at h4
      exact h.cellM h4
    · obtain ⟨y, hy, hp⟩ := List.mem_flatMap.1 hp
      exact ho y hy p hp
  case prow i n =>
    obtain ⟨Ty, sz', α, l, enc, hi', g1⟩ := prowOf_ok g
    obtain ⟨g2, g3⟩ := must_ok g1
    have g2 := Nat.eq_of_beq_eq_true g2
    subst g2
    obtain ⟨rfl, g4⟩ := mustP_ok g3
    obtain ⟨f, q1, hsz, hrow⟩ := h.prow hi'
    simp only [den, denS, q1] at hv
    rcases hrow with ⟨q2, rfl⟩ | ⟨c, arr, q2, q3, r⟩
    · rcases hdrP_form hv with ⟨_, _, rfl⟩ | ⟨c, q4, _⟩
      · exact ⟨α, [], enc, g4, by simp, hsz, ⟨none, 0, rfl, fun q => by simp at q⟩, by simp, by simp⟩
      · omega
    · rcases hdrP_form hv with ⟨q4, _⟩ | ⟨c', q4, rfl⟩
      · omega
      · exact ⟨α, l, enc, g4, q3, hsz, ⟨_, c', rfl, fun _ => ⟨f.b, 0, rfl, fun j u hu => by rw [Nat.zero_add]; exact r.cell hu⟩⟩, r.len, r.ok⟩
  case pfix i n cc =>
    obtain ⟨Ty, sz', α, l, enc, hi', g1⟩ := prowOf_ok g
    obtain ⟨g2, g3⟩ := must_ok g1
    have g2 := Nat.eq_of_beq_eq_true g2
    subst g2
    obtain ⟨rfl, g4⟩ := mustP_ok g3
    obtain ⟨f, q1, hsz, hrow⟩ := h.prow hi'
    simp only [den, denS, q1] at hv
    rcases hrow with ⟨q2, rfl⟩ | ⟨c, arr, q2, q3, r⟩
    · rcases hdrF_form hv with ⟨_, _, _, rfl⟩ | ⟨c, q4, _⟩
      · exact ⟨α, [], enc, g4, by simp, hsz, ⟨none, 0, rfl, fun q => by simp at q⟩, by simp, by simp⟩
      · omega
    · rcases hdrF_form hv with ⟨q4, _⟩ | ⟨c', q4, rfl⟩
      · omega
      · exact ⟨α, l, enc, g4, q3, hsz, ⟨_, cc, rfl, fun _ => ⟨f.b, 0, rfl, fun j u hu => by rw [Nat.zero_add]; exact r.cell hu⟩⟩, r.len, r.ok⟩
  case psub i sz0 a n =>
    obtain ⟨Ty, sz', α, l, enc, hi', g1⟩ := prowOf_ok g
    obtain ⟨g2, g3⟩ := must_ok g1
    have g2 := Nat.eq_of_beq_eq_true g2
    subst g2
    obtain ⟨g5, g6⟩ := must_ok g3
    have g5 := Nat.eq_of_beq_eq_true g5
    subst g5
    obtain ⟨hle, g4⟩ := mustP_ok g6
    obtain ⟨f, q1, hsz, hrow⟩ := h.prow hi'
    simp only [den, denS, q1] at hv
    have hlen : ((l.drop a).take n).length = n := by rw [List.length_take, List.length_drop]; omega
    have hsub : ∀ x ∈ (l.drop a).take n, x ∈ l := fun x hx => List.mem_of_mem_drop (List.mem_of_mem_take hx)
    rcases hrow with ⟨q2, rfl⟩ | ⟨c, arr, q2, q3, r⟩
    · simp at hle
      obtain ⟨rfl, rfl⟩ : a = 0 ∧ n = 0 := by omega
      rcases hdrS_form hv with ⟨_, _, _, rfl⟩ | ⟨c, q4, _⟩
      · exact ⟨α, _, enc, g4, by simp, hsz, ⟨none, 0, rfl, fun q => by simp at q⟩, by simp, by simp⟩
      · omega
    · rcases hdrS_form hv with ⟨q4, _⟩ | ⟨c', q4, rfl, _⟩
      · omega
      · have := r.le
        have e1 : ((l.drop a).take n).flatMap enc = ((l.flatMap enc).drop (a * sz)).take (n * sz) := by
          rw [flatMap_take (sz := sz) n fun x hx => q3 x (List.mem_of_mem_drop hx), flatMap_drop a q3]
        refine ⟨α, _, enc, g4, fun x hx => q3 x (hsub x hx), hsz, ⟨_, c' - a, by rw [hlen], fun hn => ⟨f.b, a * sz, ?_, fun j u hu => ?_⟩⟩, flatMap_len fun x hx => q3 x (hsub x hx), fun p hp => ?_⟩
        · rw [hlen] at hn
          rw [if_neg (by omega)]
        · refine r.cells (a * sz) j u ?_
          rw [e1, List.map_take] at hu
          have hj := (List.getElem?_eq_some_iff.1 hu).1
          rw [List.length_take] at hj
          rw [List.getElem?_take_of_lt (by omega)] at hu
          exact hu
        · obtain ⟨y, hy, hp⟩ := List.mem_flatMap.1 hp
          exact r.ok p (List.mem_flatMap.2 ⟨y, hsub y hy, hp⟩)
/-- Elements as lists; 'empt': are there none? -/
noncomputable def toPss (els : List (List AV)) : (List (List PL) → Bool) → Bool := List.rec (fun K => K []) (fun v _ ih K => toPs v fun p => ih fun ps => K (p :: ps)) els
theorem toPss_ok {sz : Nat} : ∀ {els : List (List AV)} {xs : List Value} {K : List (List PL) → Bool}, denL E ρ els.flatten = some xs → (∀ l ∈ els, l.length = sz) → toPss els K = true → ∃ pss, K pss = true ∧ xs = pss.flatten.map valP ∧ (∀ p ∈ pss.flatten, OkP E.M p) ∧ (∀ l ∈ pss, l.length = sz) ∧ pss.length = els.length
  | [], xs, K, hd, _, h => by
    simp [denL] at hd
    subst hd
    exact ⟨[], h, rfl, by simp, by simp, rfl⟩
  | v :: els, xs, K, hd, hl, h => by
    obtain ⟨xs1, xs2, h1, h2, rfl⟩ := denL_split (l := v) (m := els.flatten) (by simpa using hd)
    obtain ⟨ps, p1, rfl, g, p3⟩ := toPs_ok (K := fun p => toPss els fun ps => K (p :: ps)) h1 h
    obtain ⟨pss, g1, rfl, q2, q3, q4⟩ := toPss_ok h2 (fun l hl' => hl l (by simp [hl'])) g
    refine ⟨ps :: pss, g1, by simp, fun p hp => ?_, fun l hl' => ?_, by simp [q4]⟩
    · simp only [List.flatten_cons, List.mem_append] at hp
      exact hp.elim (p1 p) (q2 p)
    · rcases List.mem_cons.1 hl' with rfl | hl'
      · rw [p3]; exact hl v (by simp)
      · exact q3 l hl'
noncomputable def srcY (sz : Nat) (v : AV) (M : T) (K : List (List PL) → (Bool → Bool → Bool) → Bool) : Bool := ifB (isSy v) (srcS sz v M fun _ l enc => K (l.map enc) fun x y => ifB (prB (l = [])) x y) (elsX sz v M fun els => toPss els fun pss => K pss fun x y => List.casesOn pss x fun _ _ => y)
theorem srcY_ok (h : Sim E ρ G F M nx w) {sz : Nat} (hsz : 0 < sz) {v : AV} {K : List (List PL) → (Bool → Bool → Bool) → Bool} {x : Value} (hv : den E ρ v = some x) (hk : srcY sz v M K = true) :
    ∃ R empt, K R empt = true ∧ SrcAt E w x sz R.length R.flatten ∧ (∀ l ∈ R, l.length = sz) ∧ ∀ a b, empt a b = true → (R = [] ∧ a = true) ∨ (R ≠ [] ∧ b = true) := by
  rcases ifB_ok hk with ⟨-, g⟩ | ⟨-, g⟩
  · obtain ⟨α, l, enc, g1, g2, g3, g4⟩ := srcS_ok h hv g
    refine ⟨_, _, g1, ?_, fun e he => ?_, fun a b q => ?_⟩
    · rw [List.length_map, ← List.flatMap_def]; exact g4
    · obtain ⟨y, hy, rfl⟩ := List.mem_map.1 he
      exact g2 y hy
    · rcases ifP_ok q with ⟨q1, q2⟩ | ⟨q1, q2⟩
      · exact .inl ⟨by rw [q1]; rfl, q2⟩
      · exact .inr ⟨fun q3 => q1 (List.map_eq_nil_iff.1 q3), q2⟩
  · obtain ⟨els, xs, ao, n, c, g1, g2, rfl, g4, g5, g6, g7⟩ := elsX_ok h hv g
    obtain ⟨pss, p1, rfl, p3, p4, p5⟩ := toPss_ok g2 g5 g1
    refine ⟨_, _, p1, ⟨⟨ao, c, by rw [p5, g4], fun q => g7 (by omega)⟩, flat_len p4, p3⟩, p4, fun a b q => ?_⟩
    cases pss with
    | nil => exact .inl ⟨rfl, q⟩
    | cons p ps => exact .inr ⟨by simp, q⟩

/-! ### Appending to a row of terms, or to a full slice, or to none -/
noncomputable def limP (bytes a : Nat) : Prop := a ≤ 9223372036854775807 ∧ a * bytes ≤ 140737488355328
noncomputable def newP (Ty sz : Nat) (α : Type) (l : List α) (enc : α → List PL) (M : T) (nx : Nat) (K : AV → T → Nat → Bool) : Bool := T.set fuelT M nx (some (.prow Ty sz α l enc)) fun M' => fN (Nat.succ nx) fun q => K (.sy (.prow nx l.length)) M' q
noncomputable def dstS (Ty sz bytes : Nat) (v1 : AV) (R : List (List PL)) (empt : Bool → Bool → Bool) (M : T) (nx : Nat) (K : AV → T → Nat → Bool) : Bool := asSy v1 fun s => SY.casesOn s (fun _ _ => false) (fun _ => false) (fun _ => false)
  (fun h sz' α l enc => must (Nat.beq sz sz') (must (prB (∃ ao, h = .slice ao l.length l.length)) (empt (K v1 M nx) (exB fun m : List α => must (prB (m.map enc = R)) (must (prB (limP bytes (l.length + m.length))) (newP Ty sz α (l ++ m) enc M nx K))))))
  (fun _ _ _ => false)
  (fun i n => prowOf M i fun Ty' sz' α l enc => must (Nat.beq Ty Ty') (must (Nat.beq sz sz') (must (prB (n = l.length)) (empt (K v1 M nx) (exB fun m : List α => must (prB (m.map enc = R)) (must (prB (limP bytes (l.length + m.length))) (T.set fuelT M i none fun M1 => newP Ty sz α (l ++ m) enc M1 nx K)))))))
  (fun _ _ _ _ => false) (fun _ _ _ _ => false)
  (fun _ _ _ => false)
noncomputable def appS (Ty sz bytes : Nat) (v1 v2 : AV) (M : T) (nx : Nat) (K : AV → T → Nat → Bool) : Bool :=
  ifB (isSy v1) (srcY sz v2 M fun R empt => dstS Ty sz bytes v1 R empt M nx K)
    (asSl v1 (srcS sz v2 M fun α l enc => ifB (prB (l = [])) (K .nilS M nx) (must (prB (limP bytes l.length)) (newP Ty sz α l enc M nx K))) (fun _ _ _ _ => false))
noncomputable def appY (Ty sz bytes : Nat) (v1 v2 : AV) (M : T) (nx : Nat) (K : AV → T → Nat → Bool) : Bool := ifB (anyS v1 v2) (appS Ty sz bytes v1 v2 M nx K) (appX Ty sz bytes v1 v2 M nx K)
theorem appY_ok (hE : EOk E) (h : Sim E ρ G F M nx w) {t ty Ty sz bytes : Nat} (ht : P.underlying t = some (.slice Ty)) (he : elemOk P Ty sz bytes = true) {v1 v2 : AV} {K : AV → T → Nat → Bool} {x1 x2 : Value} (h1 : den E ρ v1 = some x1) (h2 : den E ρ v2 = some x2)
    (hk : appY Ty sz bytes v1 v2 M nx K = true) : ∃ v M' nx' ρ' w' x, ρ.Le ρ' ∧ Sim E ρ' G F M' nx' w' ∧ K v M' nx' = true ∧ den E ρ' v = some x ∧ (Builtin.append_ #[t, t] ty #[x1, x2]).run P w = .ok x w' := by
  rcases ifB_ok hk with ⟨-, g⟩ | ⟨-, g⟩
  case inr => exact appX_ok hE h ht he h1 h2 g
  obtain ⟨inf, z, i1, i2, i3, i4, i5, i6⟩ := elem_parts he
  have hs : szOf P Ty = some sz := by simp [szOf, i1, i3]
  have hm63 : maxLen = 9223372036854775807 := rfl
  have h0 := h.fresh nx (Nat.le_refl _)
  clear hk
  -- a new row of terms
  have fin : ∀ {i : Nat} {old : Option Nat} {M0 : T} {v' : Value} {w' : World} {base : Nat} {α : Type} {l : List α} {enc : α → List PL}, (∀ b, old = some b → ∃ e o, M.get i = some o ∧ ρ i = some e ∧ e.b = b ∧ hasB e o = true) → w.grownBy w' old → w'.ownsRow base Ty sz v' l.length ((l.flatMap enc).map valP) → 0 < l.length →
      (v'.ownBlock = old ∨ v'.ownBlock = some w.heap.size ∨ w.heap.size ≤ base) → (∀ p ∈ l.flatMap enc, OkP E.M p) → (∀ x ∈ l, (enc x).length = sz) → (∀ m, m ≠ nx → m ≠ i → M0.get m = M.get m) → (i ≠ nx → M0.get i = none) → newP Ty sz α l enc M0 nx K = true →
      (Builtin.append_ #[t, t] ty #[x1, x2]).run P w = .ok v' w' → ∃ v M' nx' ρ' w' x, ρ.Le ρ' ∧ Sim E ρ' G F M' nx' w' ∧ K v M' nx' = true ∧ den E ρ' v = some x ∧ (Builtin.append_ #[t, t] ty #[x1, x2]).run P w = .ok x w' := by
    intro i old M0 v' w' base α l enc g1 g2 g3 g4 g5 g6 g7 g10 g11 g12 g13
    obtain ⟨M', k1, s1, s2⟩ := T.set_ok _ _ _ _ _ g12
    rw [fN_eq] at k1
    obtain ⟨b, cap, cur, rfl, r1, r2, r3, r4, r5, r6, r7⟩ := own_row g3 g4
    have hb' : old = some b ∨ w.heap.size ≤ b := by
      rcases g5 with e | e | e
      · exact .inl (by rw [← e]; rfl)
      · simp [Value.ownBlock] at e; exact .inr (by omega)
      · exact .inr (by omega)
    refine ⟨.sy (.prow nx l.length), M', nx + 1, ρ.set nx ⟨b, cap + 1⟩, w', _, Ren.le_set _ h0, h.regrow (i := i) (o' := .prow Ty sz α l enc) (ob' := .cells cur Ty (0, 0)) h0 (Nat.le_succ _) (Nat.lt_succ_self _) g1 g2 r2 hb' ⟨cur, _, rfl, i6, g7, denPs_mk g6, by simpa using r5, r6, by simpa using r3, by simpa using r4⟩ s1 (fun m q1 q2 => by rw [s2 m q1, g10 m q1 q2]) (fun q => by rw [s2 i q, g11 q]) (hasB_prow rfl), k1, ?_, g13⟩
    simp only [den, denS, Ren.set_self, hdrP]
  have news_ok : ∀ {R : List (List PL)} {m : Nat}, SrcAt E w x2 sz R.length R.flatten → R ≠ [] → ∃ b o c, x2 = .slice (some ⟨b, o, none⟩) R.length c ∧ (∀ j u, (R.flatten.map valP)[j]? = some u → w.cell? (Addr.add ⟨b, o, none⟩ j) = some u) ∧ (∀ u ∈ R.flatten.map valP, Value.oneCell' u = true) ∧ (R.flatten.map valP).length = R.length * sz := by
    intro R m hS hne
    obtain ⟨ao, c, hx, hc⟩ := hS.form
    obtain ⟨b, o, rfl, hcc⟩ := hc (List.length_pos_iff.2 hne)
    refine ⟨b, o, c, hx, fun j u hu => by rw [add_mk]; exact hcc j u hu, fun u hu => ?_, by rw [List.length_map]; exact hS.len⟩
    obtain ⟨p, hp, rfl⟩ := List.mem_map.1 hu
    exact valP_one (hS.ok p hp)
  replace g := ifB_ok g
  rcases g with ⟨-, g⟩ | ⟨-, g⟩
  · obtain ⟨R, empt, g1, hS, hR, hE'⟩ := srcY_ok h i6 h2 g
    replace g1 := asSy_ok g1
    clear g
    obtain ⟨s, rfl, g⟩ := g1
    have flatR : ∀ {α : Type} {m : List α} {enc : α → List PL}, m.map enc = R → R.flatten = m.flatMap enc ∧ R.length = m.length ∧ ∀ x ∈ m, (enc x).length = sz := by
      intro α m enc q
      subst q
      exact ⟨by rw [List.flatMap_def], by simp, fun x hx => hR _ (List.mem_map.2 ⟨x, hx, rfl⟩)⟩
    have none_ok : R = [] → ∀ {ao n c}, x1 = .slice ao n c → n ≤ c → (Builtin.append_ #[t, t] ty #[x1, x2]).run P w = .ok x1 w := by
      intro q ao n c hx hle
      obtain ⟨ao2, c2, hx2, _⟩ := hS.form
      subst q
      rw [hx, hx2]
      exact run_append_none t ty Ty ht hs ao n c hle ao2 c2
    cases s <;> first | (cases g; done) | skip
    case imm hh sz' α l enc =>
      obtain ⟨g1, g2⟩ := must_ok g
      have g1 := Nat.eq_of_beq_eq_true g1
      subst g1
      obtain ⟨⟨ao, rfl⟩, g3⟩ := mustP_ok g2
      obtain ⟨hok, rfl⟩ := denP_some (show denP E (.imm (.slice ao l.length l.length) sz α l enc) = some x1 from h1)
      rcases hE' _ _ g3 with ⟨q, g4⟩ | ⟨q, g4⟩
      · exact ⟨_, M, nx, ρ, w, _, Ren.Le.refl _, h, g4, h1, none_ok q rfl (Nat.le_refl _)⟩
      · obtain ⟨m, g5⟩ := exB_ok g4
        obtain ⟨hm, g6⟩ := mustP_ok g5
        obtain ⟨⟨l1, l2⟩, g7⟩ := mustP_ok g6
        obtain ⟨f1, f2, f3⟩ := flatR hm
        obtain ⟨b, o, c, rfl, n1, n2, n3⟩ := news_ok (m := 0) hS q
        have hpos := List.length_pos_iff.2 q
        obtain ⟨ao', cap', hh, _, _, _, ha, hl, ho, hr⟩ := okImm hok
        injection hh with e1 e2 e3
        subst e1
        have hSl := srcS_ok h (v := .sy (.imm (.slice ao l.length l.length) sz α l enc)) (sz := sz) (K := fun α' l' enc' => prB ((⟨α', (l', enc')⟩ : (β : Type) × (List β × (β → List PL))) = ⟨α, (l, enc)⟩)) h1 (by
          show must (Nat.beq sz sz) _ = true
          exact must_mk (Nat.beq_refl sz) (prB_true.2 rfl))
        obtain ⟨α', l', enc', e, hl', _, hS1⟩ := hSl
        have e := prB_true.1 e
        cases e
        obtain ⟨v', w', r1, r2, r3⟩ : ∃ v' w', (Builtin.append_ #[t, t] ty #[.slice ao l.length l.length, .slice (some ⟨b, o, none⟩) R.length c]).run P w = .ok v' w' ∧ w'.ownsRow w.heap.size Ty sz v' (l.length + R.length) (((l.flatMap enc).map valP) ++ R.flatten.map valP) ∧ w.grownBy w' none := by
          rcases Nat.eq_zero_or_pos l.length with q0 | q0
          · have hl0 : l = [] := List.eq_nil_of_length_eq_zero q0
            subst hl0
            cases ao with
            | none =>
              obtain ⟨v', w', r1, r2, r3, _, r5⟩ := run_append_own_at (P := P) w w.heap.size t ty Ty inf z sz bytes ht i1 i2 i3 i5 i4 i6 (.slice none 0 0) 0 [] (World.ownsRow_nil w _ Ty sz) ⟨b, o, none⟩ R.length c _ n3 n1 n2 (by omega) (by rw [f2, Nat.zero_add]; simpa using l2) (Nat.le_refl _)
              exact ⟨v', w', r1, by simpa using r2, r3⟩
            | some a =>
              obtain ⟨v', w', r1, r2, r3⟩ := run_append_arg_grows (P := P) w t ty Ty inf z sz bytes ht i1 i2 i3 i5 i4 i6 a 0 0 [] (by simp) (fun j u hu => by simp at hu) ⟨b, o, none⟩ R.length c _ n3 n1 (by omega) (by rw [f2, hm63]; simpa using l1) (by rw [f2]; simpa using l2)
              exact ⟨v', w', r1, by simpa using r2, r3⟩
          · have hao := ha q0
            rw [hao]
            obtain ⟨ao2, c2, hx2, hc2⟩ := hS1.form
            injection hx2 with e1 e2 e3
            obtain ⟨b1, o1, e4, hc3⟩ := hc2 q0
            rw [← e1, hao] at e4
            injection e4 with e4
            obtain ⟨v', w', r1, r2, r3⟩ := run_append_arg_grows (P := P) w t ty Ty inf z sz bytes ht i1 i2 i3 i5 i4 i6 ⟨blk ao, ofs ao, none⟩ l.length l.length ((l.flatMap enc).map valP) (by rw [List.length_map, flatMap_len hl]) (fun j u hu => by rw [e4, add_mk]; exact hc3 j u hu) ⟨b, o, none⟩ R.length c _ n3 n1 (by omega) (by omega) (by rw [f2]; exact l2)
            exact ⟨v', w', r1, r2, r3⟩
        refine fin (i := nx) (old := none) (M0 := M) (base := w.heap.size) (l := l ++ m) (enc := enc) (fun b q => by cases q) r3 ?_ (by rw [List.length_append]; omega) (.inr (.inr (Nat.le_refl _))) ?_ (fun x hx => ?_) (fun _ _ _ => rfl) (fun q => absurd rfl q) g7 r1
        · rw [List.length_append, List.flatMap_append, List.map_append, ← f1, ← f2]; exact r2
        · intro p hp
          rw [List.flatMap_append] at hp
          rcases List.mem_append.1 hp with hp | hp
          · exact hS1.ok p hp
          · exact hS.ok p (by rw [f1]; exact hp)
        · rcases List.mem_append.1 hx with hx | hx
          · exact hl x hx
          · exact f3 x hx
    case prow i n =>
      obtain ⟨Ty', sz', α, l, enc, hi', g1⟩ := prowOf_ok g
      obtain ⟨g2, g3⟩ := must_ok g1
      have g2 := Nat.eq_of_beq_eq_true g2
      subst g2
      obtain ⟨g4, g5⟩ := must_ok g3
      have g4 := Nat.eq_of_beq_eq_true g4
      subst g4
      obtain ⟨rfl, g6⟩ := mustP_ok g5
      obtain ⟨f, q1, hsz, hrow⟩ := h.prow hi'
      have h1' := h1
      simp only [den, denS, q1] at h1
      rcases hE' _ _ g6 with ⟨q, g4⟩ | ⟨q, g4⟩
      · rcases hdrP_form h1 with ⟨_, e0, hx⟩ | ⟨c, qc, hx⟩
        · exact ⟨_, M, nx, ρ, w, _, Ren.Le.refl _, h, g4, h1', none_ok q hx (Nat.le_refl _)⟩
        · rcases hrow with ⟨q2, _⟩ | ⟨c', arr, q2, q3, r⟩
          · omega
          · have := r.le
            exact ⟨_, M, nx, ρ, w, _, Ren.Le.refl _, h, g4, h1', none_ok q hx (by omega)⟩
      · obtain ⟨m, g5⟩ := exB_ok g4
        obtain ⟨hm, g6⟩ := mustP_ok g5
        obtain ⟨⟨l1, l2⟩, g7⟩ := mustP_ok g6
        obtain ⟨f1, f2, f3⟩ := flatR hm
        obtain ⟨b, o, c, hx2, n1, n2, n3⟩ := news_ok (m := 0) hS q
        have hpos := List.length_pos_iff.2 q
        obtain ⟨M1, k1, s1, s2⟩ := T.set_ok _ _ _ _ _ g7
        have hinx : i ≠ nx := fun q => by rw [q, h0] at q1; cases q1
        rcases hrow with ⟨q2, q3⟩ | ⟨c', arr, q2, q3, r⟩
        · rcases hdrP_form h1 with ⟨_, e0, hx⟩ | ⟨c, qc, _⟩
          case inr => omega
          subst q3
          obtain ⟨v', w', r1, r2, r3, _, r5⟩ := run_append_own_at (P := P) w w.heap.size t ty Ty inf z sz bytes ht i1 i2 i3 i5 i4 i6 (.slice none 0 0) 0 [] (World.ownsRow_nil w _ Ty sz) ⟨b, o, none⟩ R.length c _ n3 n1 n2 (by omega) (by rw [f2, Nat.zero_add]; simpa using l2) (Nat.le_refl _)
          refine fin (i := i) (old := none) (M0 := M1) (base := w.heap.size) (l := [] ++ m) (enc := enc) (fun b q => by cases q) r3 ?_ (by simp; omega) (.inr (.inr (Nat.le_refl _))) (fun p hp => hS.ok p (by rw [f1]; simpa using hp)) (fun x hx => f3 x (by simpa using hx)) (fun m' _ q => s2 m' q) (fun _ => s1) k1 (by rw [hx, hx2]; exact r1)
          rw [List.nil_append, ← f1, ← f2]
          simpa using r2
        · rcases hdrP_form h1 with ⟨qc, _⟩ | ⟨cc, qc, hx⟩
          · omega
          obtain rfl : cc = c' := by omega
          have hB : hasB f (.prow Ty sz α l enc) = true := hasB_prow q2
          obtain ⟨v', w', r1, r2, r3, _, r5⟩ := run_append_own_at (P := P) w 0 t ty Ty inf z sz bytes ht i1 i2 i3 i5 i4 i6 (.slice (some ⟨f.b, 0, none⟩) l.length cc) l.length ((l.flatMap enc).map valP)
            ⟨by rw [List.length_map]; exact r.len, .inr ⟨f.b, cc, arr, rfl, Nat.zero_le _, r.heap, r.le, r.max, r.size, r.take⟩⟩ ⟨b, o, none⟩ R.length c _ n3 n1 n2 (by omega) (by rw [f2]; exact l2) (Nat.zero_le _)
          refine fin (i := i) (old := some f.b) (M0 := M1) (base := 0) (l := l ++ m) (enc := enc) (fun b q => ⟨f, _, hi', q1, Option.some.inj q, hB⟩) r3 ?_ (by rw [List.length_append]; omega) (r5.imp id .inl) ?_ (fun x hx => ?_) (fun m' _ q => s2 m' q) (fun _ => s1) k1 (by rw [hx, hx2]; exact r1)
          · rw [List.length_append, List.flatMap_append, List.map_append, ← f1, ← f2]; exact r2
          · intro p hp
            rw [List.flatMap_append] at hp
            rcases List.mem_append.1 hp with hp | hp
            · exact r.ok p hp
            · exact hS.ok p (by rw [f1]; exact hp)
          · rcases List.mem_append.1 hx with hx | hx
            · exact q3 x hx
            · exact f3 x hx
  · rcases asSl_ok g with ⟨rfl, g⟩ | ⟨i, o, n, c, rfl, g⟩
    case inr => cases g
    cases h1
    obtain ⟨α, l, enc, g1, g2, g3, hS⟩ := srcS_ok h h2 g
    obtain ⟨ao, c, hx2, hc⟩ := hS.form
    rcases ifP_ok g1 with ⟨q, g4⟩ | ⟨q, g4⟩
    · subst q
      refine ⟨.nilS, M, nx, ρ, w, .slice none 0 0, Ren.Le.refl _, h, g4, rfl, ?_⟩
      rw [hx2]
      exact run_append_none t ty Ty ht hs none 0 0 (Nat.le_refl _) ao c
    · obtain ⟨⟨l1, l2⟩, g7⟩ := mustP_ok g4
      have hpos := List.length_pos_iff.2 q
      obtain ⟨b, o, rfl, hcc⟩ := hc hpos
      obtain ⟨v', w', r1, r2, r3, _, r5⟩ := run_append_own_at (P := P) w w.heap.size t ty Ty inf z sz bytes ht i1 i2 i3 i5 i4 i6 (.slice none 0 0) 0 [] (World.ownsRow_nil w _ Ty sz) ⟨b, o, none⟩ l.length c ((l.flatMap enc).map valP) (by rw [List.length_map]; exact hS.len) (fun j u hu => by rw [add_mk]; exact hcc j u hu)
        (fun u hu => by
          obtain ⟨p, hp, rfl⟩ := List.mem_map.1 hu
          exact valP_one (hS.ok p hp)) (by omega) (by rw [Nat.zero_add]; exact l2) (Nat.le_refl _)
      refine fin (i := nx) (old := none) (M0 := M) (base := w.heap.size) (l := l) (enc := enc) (fun b q => by cases q) r3 (by simpa using r2) hpos (.inr (.inr (Nat.le_refl _))) hS.ok g2 (fun _ _ _ => rfl) (fun q => absurd rfl q) g7 (by rw [hx2]; exact r1)
/-- make with no length and a capacity that is a term. -/
noncomputable def mksY (Ty sz bytes : Nat) (z : List AV) (vl vc : AV) (M : T) (nx : Nat) (K : AV → T → Nat → Bool) : Bool := ifB (isSy vc) (asI vl fun _ l => asSy vc fun s => SY.casesOn s (fun _ c => must (prB (l = 0 ∧ 0 ≤ c ∧ c ≤ 9223372036854775807 ∧ (bytes : Int) * c ≤ 140737488355328)) (must (Nat.blt 0 sz) (T.set fuelT M nx (some (.prow Ty sz Unit [] (fun _ => []))) fun M' => fN (Nat.succ nx) fun q => K (.sy (.prow nx 0)) M' q))) (fun _ => false) (fun _ => false) (fun _ _ _ _ _ => false) (fun _ _ _ => false) (fun _ _ => false) (fun _ _ _ _ => false) (fun _ _ _ _ => false) (fun _ _ _ => false)) (mksX Ty sz bytes z vl vc M nx K)
theorem mksY_ok (h : Sim E ρ G F M nx w) {t Ty sz bytes : Nat} (ht : P.underlying t = some (.slice Ty)) (he : elemOk P Ty sz bytes = true) {z : List AV} {zs : Array Value} (hz : zeroC P Ty = some zs) (hzd : denL E ρ z = some zs.toList) {vl vc : AV} {xl xc : Value} (hl : den E ρ vl = some xl) (hc : den E ρ vc = some xc)
    {K : AV → T → Nat → Bool} (hk : mksY Ty sz bytes z vl vc M nx K = true) : ∃ v M' nx' ρ' w' x, ρ.Le ρ' ∧ Sim E ρ' G F M' nx' w' ∧ K v M' nx' = true ∧ den E ρ' v = some x ∧ (Instr.makeSlice t xl xc).run P w = .ok x w' := by
  rcases ifB_ok hk with ⟨-, g⟩ | ⟨-, g⟩
  case inr => exact mksX_ok h ht he hz hzd hl hc g
  obtain ⟨k1, l, rfl, g1⟩ := asI_ok g
  replace g1 := asSy_ok g1
  clear g hk
  obtain ⟨s, rfl, g⟩ := g1
  cases s <;> first | (cases g; done) | skip
  case int k2 c =>
    obtain ⟨⟨rfl, c0, c1, c2⟩, g2⟩ := mustP_ok g
    obtain ⟨g3, g4⟩ := must_ok g2
    rw [Nat.blt_eq] at g3
    obtain ⟨M', g5, s1, s2⟩ := T.set_ok _ _ _ _ _ g4
    rw [fN_eq] at g5
    cases hl; cases hc
    obtain ⟨inf, z0, i1, i2, i3, i4, i5, i6⟩ := elem_parts he
    have h0 := h.fresh nx (Nat.le_refl _)
    have hr := Go.run_make (P := P) w t Ty inf z0 ht i1 i2 (kOf k1) (kOf k2) 0 c (Int.le_refl 0) c0 (by rw [i5]; omega) c1
    refine ⟨_, M', nx + 1, _, _, _, Ren.le_set (ρ := ρ) ⟨w.heap.size, c.toNat + 1⟩ h0, h.alloc (cap := c.toNat + 1) (o := .prow Ty sz Unit [] (fun _ => [])) (ob := .cells (madeCells z0.cells (c.toNat * inf.size)) Ty (0, 0)) h0 (Nat.le_succ _) (Nat.lt_succ_self _) ⟨_, [], rfl, g3, fun x hx => (by simp at hx), by simp [denPs], ?_, by simp, by simp, ?_⟩ s1 s2 (hasB_prow rfl), g5, ?_, hr⟩
    · rw [Go.size_madeCells, i3]; simp
    · simp only [Nat.add_sub_cancel, maxLen]; omega
    · simp [den, denS, Ren.set_self, hdrP]
end
end Go.Sy
