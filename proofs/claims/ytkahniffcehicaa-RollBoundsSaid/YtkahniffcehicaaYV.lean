/- The executor: calls, and what is said of functions that change what they are handed. No condition: definitions and plain lemmas. -/
import Derived.Test.YtkahniffcehicaaYU
import Derived.LoopN
namespace Go.Sy
open Go Go.RowKit Go.Eng

inductive XRes | none | one (t : Nat) | two (t u : Nat) | cell (t : Nat) (agg : Bool) (n : Nat)
inductive XF : Type 1 | mk (N : Nat) (res : XRes) (body : XC)
noncomputable def resX (r : XRes) (S : SL) (M : T) (K : AV → Bool) : Bool := XRes.casesOn r (K (.tup [])) (fun t => nb (getS t S) K) (fun t u => nb (getS t S) fun x => nb (getS u S) fun y => K (.tup [x, y])) (fun t agg n => nb (getS t S) fun p => ldY agg n p M K)
noncomputable def argsX (vs : List AV) : Nat → SL → (SL → Bool) → Bool := List.rec (fun _ S K => K S) (fun v _ ih n S K => ih (Nat.succ n) (.cons n v S) K) vs
def chkRes (P : Program) (r : XRes) (rs : List ResultVar) : Bool := match r, rs with
  | .none, [] => true
  | .one t, [.tmp t'] => Nat.beq t t'
  | .two t u, [.tmp t', .tmp u'] => Nat.beq t t' && Nat.beq u u'
  | .cell t agg n, [.cell t' ty] => Nat.beq t t' && decide (isAg P ty = some agg) && decide (szOf P ty = some n)
  | _, _ => false
def bodyOf : XF → XC
  | .mk _ _ b => b
def nOf : XF → Nat
  | .mk n _ _ => n
def chkF (P : Program) (f : Nat) (xf : XF) : Bool := match xf, P.funcs[f]? with
  | .mk N res body, some fn => (match fn.body with | some c => Nat.beq fn.ntmps N && chkRes P res fn.results.toList && chkC P N body c | none => false)
  | _, none => false

/-- What is said of a function that may change what its arguments name. -/
abbrev SpecE := List AV → T → Nat → (AV → T → Nat → Bool) → Bool
inductive ES : Type 1 | mk (k : Nat) (sp : SpecE)
noncomputable def fP (l : List (Nat × Nat)) : (List (Nat × Nat) → Bool) → Bool := List.rec (fun K => K []) (fun p _ ih K => fN p.1 fun a => fN p.2 fun b => ih fun l => K ((a, b) :: l)) l
theorem fP_eq : ∀ {l : List (Nat × Nat)} {K : List (Nat × Nat) → Bool}, fP l K = K l
  | [], K => rfl
  | p :: l, K => by
    have : fP (p :: l) K = (fN p.1 fun a => fN p.2 fun b => fP l fun l => K ((a, b) :: l)) := rfl
    rw [this, fN_eq, fN_eq, fP_eq]
def belowB (n : Nat) (ps : List (Nat × Nat)) : Bool := ps.all fun p => Nat.blt p.2 n
theorem belowB_ok {n : Nat} {ps : List (Nat × Nat)} (h : belowB n ps = true) : ∀ p ∈ ps, p.2 < n := fun p hp => by
  have := List.all_eq_true.1 h p hp
  simpa [Nat.blt_eq] using this
/-- Canonical numbers for a value and what it names; the first k stay. -/
noncomputable def canV (k : Nat) (v : AV) (M : T) (K : AV → T → Nat → Bool) : Bool := fP (numd 0 (walkI M 200 (upTo k (idsA v)) [])) fun ps => must (pinsB ps k) (must (newsOk ps) (fN ps.length fun n => must (belowB n ps) (renM ps M ps .leaf fun M' => atO (renA ps v) fun v' => K v' M' n)))
noncomputable def delM (l : List (Nat × Nat)) : T → (T → Bool) → Bool := List.rec (fun M K => K M) (fun p _ ih M K => T.set fuelT M p.1 none fun M => ih M K) l
noncomputable def lkB (ps : List (Nat × Nat)) (j : Nat) : Nat := List.rec 0 (fun p _ ih => Bool.rec ih p.1 (Nat.beq p.2 j)) ps
noncomputable def outQ (k nx : Nat) (ps : List (Nat × Nat)) (l : List Nat) : List (Nat × Nat) := List.rec [] (fun j _ ih => (j, Bool.rec (Nat.add nx j) (lkB ps j) (Nat.blt j k)) :: ih) l
def outB (k nx n : Nat) (ps qs : List (Nat × Nat)) : Bool := qs.all fun q => Nat.blt q.1 n && ((Nat.blt q.1 k && ps.any fun p => Nat.beq p.1 q.2 && Nat.beq p.2 q.1) || (Nat.ble k q.1 && Nat.beq q.2 (nx + q.1)))
/-- A call of a function of which something is said: what its arguments name under canonical numbers, and back. -/
noncomputable def natGo (k : Nat) (sp : SpecE) (vs : List AV) (M : T) (nx : Nat) (K : AV → T → Nat → Bool) : Bool := fP (numd 0 (walkI M 200 (idsL vs) [])) fun ps => must (newsOk ps) (fN ps.length fun n => must (belowB n ps) (atO (renL ps vs) fun us => renM ps M ps .leaf fun Ml => sp us Ml n fun v M' n' =>
  fP (outQ k nx ps (walkI M' 200 (upTo k (idsA v)) [])) fun qs => must (newsOk qs) (must (outB k nx n' ps qs) (atO (renA qs v) fun v' => delM ps M fun M1 => renM qs M' qs M1 fun M2 => fN (nx + n') fun n2 => K v' M2 n2))))
/-- Calls, as deep as the fuel; some by what is said of them. -/
noncomputable def callX (tab : Nat → Option XF) (nat : Nat → List AV → Option ES) (lp : LpF) (lf : Nat) : Nat → CallF := Nat.rec (fun f vs M nx K => Option.casesOn (nat f vs) false fun es => ES.casesOn es fun k sp => natGo k sp vs M nx K) (fun _ ih f vs M nx K => Option.casesOn (nat f vs) (atO (tab f) fun xf => XF.casesOn xf fun N res body =>
  must (Nat.ble (lenL vs) N) (argsX vs 0 .nil fun S => codeX ih lp lf body S M nx fun e S M nx => ifB (Nat.blt 1 e) false (resX res S M fun v => K v M nx))) fun es => ES.casesOn es fun k sp => natGo k sp vs M nx K)
noncomputable def funE (k : Nat) (cf : CallF) (lp : LpF) (lf : Nat) (xf : XF) (vs : List AV) (M : T) (nx : Nat) (K : AV → T → Nat → Bool) : Bool := XF.casesOn xf fun N res body => must (Nat.ble (lenL vs) N) (argsX vs 0 .nil fun S => codeX cf lp lf body S M nx fun e S M nx => ifB (Nat.blt 1 e) false (resX res S M fun v => canV k v M K))
section
variable {P : Program} {E : Env} {ρ : Ren} {G : GS} {F : List Chunk} {M : T} {nx : Nat} {w : World} {N : Nat} {S : SL} {a : Act} {ops : Array Oper} {o : Oper} {pk : Nat}
theorem argsX_ok : ∀ {vs : List AV} {xs : List Value} {n : Nat} {S : SL} {K : SL → Bool}, denL E ρ vs = some xs → (∀ i x, xs[i]? = some x → a.tmps.getD (n + i) undef = x) → SR E ρ N S a → argsX vs n S K = true → ∃ S', SR E ρ N S' a ∧ K S' = true
  | [], xs, n, S, K, _, _, s, h => ⟨S, s, h⟩
  | v :: vs, xs, n, S, K, hd, hx, s, h => by
    obtain ⟨y, ys, h1, h2, rfl⟩ := denL_cons hd
    have h' : argsX vs (Nat.succ n) (.cons n v S) K = true := h
    refine argsX_ok h2 (fun i x hi => ?_) ⟨s.size, s.defs, fun t => ?_⟩ h'
    · have := hx (i + 1) x (by simpa using hi)
      rw [show n + (i + 1) = Nat.succ n + i by omega] at this
      exact this
    · by_cases e : n = t
      · subst e
        rw [getS_self]
        exact .inr ⟨y, h1, hx 0 y rfl⟩
      · rw [getS_ne _ _ e]
        exact s.at_ t
theorem slot_ok (s : SR E ρ N S a) {t : Nat} {K : AV → Bool} (h : nb (getS t S) K = true) : ∃ x, den E ρ (getS t S) = some x ∧ a.tmps.getD t undef = x ∧ K (getS t S) = true := by
  obtain ⟨h1, h2⟩ := nb_ok h
  obtain ⟨x, h3, h4⟩ := (s.at_ t).resolve_left h1
  exact ⟨x, h3, h4, h2⟩
theorem resX_ok (s : SR E ρ N S a) (h : Sim E ρ G F M nx w) {fn : Func} {r : XRes} {K : AV → Bool} (hc : chkRes P r fn.results.toList = true) (hk : resX r S M K = true) : ∃ v z, den E ρ v = some z ∧ K v = true ∧ (results fn a.tmps).run P w = .ok z w := by
  unfold chkRes at hc
  split at hc
  · rename_i h1
    have hr := toL h1
    exact ⟨.tup [], .tuple #[], by simp [den, denL], hk, results_none hr _ _ _⟩
  · rename_i t t' h1
    have hr := toL h1
    have := Nat.eq_of_beq_eq_true hc
    subst this
    obtain ⟨x, g1, g2, g3⟩ := slot_ok s (show nb (getS t S) K = true from hk)
    exact ⟨_, x, g1, g3, by rw [results_tmp hr, g2]⟩
  · rename_i t u t' u' h1
    have hr := toL h1
    obtain ⟨c1, c2⟩ := and2 hc
    have c1 := Nat.eq_of_beq_eq_true c1
    have c2 := Nat.eq_of_beq_eq_true c2
    subst c1; subst c2
    obtain ⟨x, g1, g2, g3⟩ := slot_ok s (show nb (getS t S) (fun x => nb (getS u S) fun y => K (.tup [x, y])) = true from hk)
    obtain ⟨y, g4, g5, g6⟩ := slot_ok s (show nb (getS u S) (fun y => K (.tup [getS t S, y])) = true from g3)
    exact ⟨_, .tuple #[x, y], by simp only [den, denL, g1, g4], g6, by rw [results_tmp2 hr, g2, g5]⟩
  · rename_i t agg n t' ty h1
    have hr := toL h1
    obtain ⟨hc, c3⟩ := and2 hc
    obtain ⟨c1, c2⟩ := and2 hc
    rw [decide_eq_true_eq] at c2 c3
    have c1 := Nat.eq_of_beq_eq_true c1
    subst c1
    obtain ⟨x, g1, g2, g3⟩ := slot_ok s (show nb (getS t S) (fun p => ldY agg n p M K) = true from hk)
    have fin : ∀ {u : AV} {z : Value}, den E ρ u = some z → K u = true → (Instr.loadAt ty x).run P w = .ok z w → ∃ v z, den E ρ v = some z ∧ K v = true ∧ (results fn a.tmps).run P w = .ok z w := by
      intro u z d1 d2 d3
      refine ⟨u, z, d1, d2, ?_⟩
      have e1 : a.tmps[t]?.getD undef = x := by simpa using g2
      cases x with
      | pointer p =>
        cases p with
        | some ad =>
          simp only [Instr.loadAt, Instr.sureAddr, Sem.run_bind, Sem.run_pure, Result.andThen_ok] at d3
          simp [results, hr, e1, asAddr, d3]
        | none => simp [Instr.loadAt, Instr.sureAddr] at d3
      | _ => simp [Instr.loadAt, Instr.sureAddr] at d3
    obtain ⟨u, z, d1, d2, d3⟩ := ldY_ok (P := P) h g1 g3 c2 c3
    exact fin d1 d2 d3
  · cases hc
theorem renM_all : ∀ {ps l : List (Nat × Nat)} {M acc : T} {K : T → Bool}, renM ps M l acc K = true → ∀ p ∈ l, ∃ o, M.get p.1 = some o
  | ps, [], M, acc, K, h, p, hp => by simp at hp
  | ps, q :: l, M, acc, K, h, p, hp => by
    have h' : (atO (M.get q.1) fun o => atO (renO ps o) fun o' => T.set fuelT acc q.2 (some o') fun acc => renM ps M l acc K) = true := h
    obtain ⟨o, h1, h2⟩ := atO_ok h'
    obtain ⟨o', h3, h4⟩ := atO_ok h2
    obtain ⟨acc', h5, s1, s2⟩ := T.set_ok _ _ _ _ _ h4
    rcases List.mem_cons.1 hp with rfl | hp
    · exact ⟨o, h1⟩
    · exact renM_all h5 p hp
theorem renM_over : ∀ {ps l : List (Nat × Nat)} {M M1 acc : T} {K : T → Bool}, (∀ j o, acc.get j = some o → (∃ i o0, (i, j) ∈ ps ∧ M.get i = some o0 ∧ renO ps o0 = some o) ∨ M1.get j = some o) → (∀ p ∈ l, p ∈ ps) → renM ps M l acc K = true →
    ∃ M', K M' = true ∧ ∀ j o, M'.get j = some o → (∃ i o0, (i, j) ∈ ps ∧ M.get i = some o0 ∧ renO ps o0 = some o) ∨ M1.get j = some o
  | ps, [], M, M1, acc, K, ha, _, h => ⟨acc, h, ha⟩
  | ps, p :: l, M, M1, acc, K, ha, hl, h => by
    have h' : (atO (M.get p.1) fun o => atO (renO ps o) fun o' => T.set fuelT acc p.2 (some o') fun acc => renM ps M l acc K) = true := h
    obtain ⟨o, h1, h2⟩ := atO_ok h'
    obtain ⟨o', h3, h4⟩ := atO_ok h2
    obtain ⟨acc', h5, s1, s2⟩ := T.set_ok _ _ _ _ _ h4
    refine renM_over (fun j ob hj => ?_) (fun q hq => hl q (by simp [hq])) h5
    by_cases e : j = p.2
    · subst e
      rw [s1] at hj
      cases hj
      exact .inl ⟨p.1, o, hl p (by simp), h1, h3⟩
    · rw [s2 j e] at hj
      exact ha j ob hj
theorem delM_ok : ∀ {l : List (Nat × Nat)} {M : T} {K : T → Bool}, delM l M K = true → ∃ M', K M' = true ∧ (∀ j o, M'.get j = some o → M.get j = some o ∧ ∀ p ∈ l, p.1 ≠ j)
  | [], M, K, h => ⟨M, h, fun j o hj => ⟨hj, fun p hp => by simp at hp⟩⟩
  | p :: l, M, K, h => by
    have h' : (T.set fuelT M p.1 none fun M => delM l M K) = true := h
    obtain ⟨M1, h1, s1, s2⟩ := T.set_ok _ _ _ _ _ h'
    obtain ⟨M2, h2, h3⟩ := delM_ok h1
    refine ⟨M2, h2, fun j o hj => ?_⟩
    obtain ⟨q1, q2⟩ := h3 j o hj
    have hne : p.1 ≠ j := fun e => by rw [← e, s1] at q1; cases q1
    refine ⟨by rw [← s2 j (fun e => hne e.symm)]; exact q1, fun r hr => ?_⟩
    rcases List.mem_cons.1 hr with rfl | hr
    · exact hne
    · exact q2 r hr
theorem outB_ok {k nx n : Nat} {ps qs : List (Nat × Nat)} (h : outB k nx n ps qs = true) : ∀ q ∈ qs, q.1 < n ∧ ((q.1 < k ∧ (q.2, q.1) ∈ ps) ∨ (k ≤ q.1 ∧ q.2 = nx + q.1)) := fun q hq => by
  have := List.all_eq_true.1 h q hq
  simp only [Bool.and_eq_true, Bool.or_eq_true, Nat.blt_eq, Nat.ble_eq] at this
  obtain ⟨h1, h2⟩ := this
  refine ⟨h1, ?_⟩
  rcases h2 with ⟨h2, h3⟩ | ⟨h2, h3⟩
  · obtain ⟨p, q1, q2⟩ := List.any_eq_true.1 h3
    simp only [Bool.and_eq_true] at q2
    have e1 := Nat.eq_of_beq_eq_true q2.1
    have e2 := Nat.eq_of_beq_eq_true q2.2
    have : p = (q.2, q.1) := by cases p; simp_all
    rw [this] at q1
    exact .inl ⟨h2, q1⟩
  · exact .inr ⟨h2, Nat.eq_of_beq_eq_true h3⟩
theorem canV_ok (h : Sim E ρ G F M nx w) {k : Nat} {v : AV} {x : Value} {K : AV → T → Nat → Bool} (hd : den E ρ v = some x) (hk : canV k v M K = true) :
    ∃ v' M' n' ρ', Sim E ρ' G F M' n' w ∧ den E ρ' v' = some x ∧ K v' M' n' = true ∧ ∀ i e, i < k → ρ i = some e → ρ' i = some e := by
  unfold canV at hk
  rw [fP_eq] at hk
  generalize numd 0 (walkI M 200 (upTo k (idsA v)) []) = ps at hk
  obtain ⟨h1, hk⟩ := must_ok hk
  obtain ⟨h2, hk⟩ := must_ok hk
  rw [fN_eq] at hk
  obtain ⟨h3, hk⟩ := must_ok hk
  obtain ⟨M', h4, h5⟩ := renM_ok (ps := ps) (fun j o hj => by simp [T.get_leaf] at hj) (fun p hp => hp) hk
  obtain ⟨v', h6, h7⟩ := atO_ok h4
  exact ⟨v', M', _, renR ps ρ, h.ren h2 (belowB_ok h3) h5, renA_den h2 _ _ _ h6 hd, h7, fun i e q1 q2 => by rw [renR_at h2 (pinsB_ok h1 i q1)]; exact q2⟩
/-- What is said of a function's calls holds. -/
def NatE (P : Program) (f k : Nat) (sp : SpecE) : Prop := ∀ (us : List AV) (xs : List Value) (E : Env) (ρ : Ren) (G : GS) (F : List Chunk) (M : T) (nx : Nat) (w : World) (K : AV → T → Nat → Bool) (R : Ending → World → Prop), EOk E → Sim E ρ G F M nx w → denL E ρ us = some xs → sp us M nx K = true →
  (∀ v M' nx' E' ρ' w' z, K v M' nx' = true → EOk E' → MLe E.M E'.M → (∀ i e, i < k → ρ i = some e → ρ' i = some e) → Sim E' ρ' G F M' nx' w' → den E' ρ' v = some z → R (.returned z) w') → Calls P f xs.toArray w R
theorem natGo_ok {f k : Nat} {sp : SpecE} (hn : NatE P f k sp) {vs : List AV} {xs : List Value} {K : AV → T → Nat → Bool} {R : Ending → World → Prop} (hE : EOk E) (h : Sim E ρ G F M nx w) (hd : denL E ρ vs = some xs) (hk : natGo k sp vs M nx K = true)
    (hr : ∀ v M' nx' E' ρ' w' z, K v M' nx' = true → Ext E ρ E' ρ' → Sim E' ρ' G F M' nx' w' → den E' ρ' v = some z → R (.returned z) w') : Calls P f xs.toArray w R := by
  classical
  unfold natGo at hk
  rw [fP_eq] at hk
  generalize numd 0 (walkI M 200 (idsL vs) []) = ps at hk
  obtain ⟨h1, hk⟩ := must_ok hk
  rw [fN_eq] at hk
  obtain ⟨h2, hk⟩ := must_ok hk
  have h2 := belowB_ok h2
  obtain ⟨us, h3, hk⟩ := atO_ok hk
  have hall := renM_all hk
  obtain ⟨Ml, hsp, hMl⟩ := renM_ok (ps := ps) (fun j o hj => by simp [T.get_leaf] at hj) (fun p hp => hp) hk
  obtain ⟨c, hh, hob, hinj⟩ := h.ex
  let B : Nat × Obj → Bool := fun q => decide (∃ p ∈ ps, ∃ e o, ρ p.1 = some e ∧ e.b = q.1 ∧ M.get p.1 = some o ∧ hasB e o = true)
  have hB : ∀ q : Nat × Obj, B q = true ↔ ∃ p ∈ ps, ∃ e o, ρ p.1 = some e ∧ e.b = q.1 ∧ M.get p.1 = some o ∧ hasB e o = true := fun q => by simp only [B, decide_eq_true_eq]
  have hh1 : Holds { G with M := E.M } w (c.filter B :: c.filter (fun q => !B q) :: F) := hh.perm (by
    simp only [List.flatten_cons, ← List.append_assoc]
    exact (List.filter_append_perm B c).append_right _)
  have hs : Sim E (renR ps ρ) G (c.filter (fun q => !B q) :: F) Ml ps.length w := by
    refine ⟨⟨c.filter B, hh1, fun j o hj => ?_, fun j k e f o o' hj hk he hf hb1 hb2 hb => ?_⟩, h.mem, fun j hj => ?_⟩
    · obtain ⟨i, o0, g1, g2, g3⟩ := hMl j o hj
      obtain ⟨e, a1, q⟩ := hob i o0 g2
      have hHB := renO_hasB (e := e) g3
      refine ⟨e, by rw [renR_at h1 g1]; exact a1, ?_⟩
      rcases q with ⟨q1, ob, q2, q3⟩ | ⟨q1, q2⟩
      · exact .inl ⟨by rw [hHB.1]; exact q1, ob, List.mem_filter.2 ⟨q2, (hB _).2 ⟨(i, j), g1, e, o0, a1, rfl, g2, q1⟩⟩, renO_rel h1 g3 q3⟩
      · exact .inr ⟨by rw [hHB.1]; exact q1, hHB.2 q2⟩
    · obtain ⟨i, o0, g1, g2, g3⟩ := hMl j o hj
      obtain ⟨i', o1, f1, f2, f3⟩ := hMl k o' hk
      rw [renR_at h1 g1] at he
      rw [renR_at h1 f1] at hf
      rw [(renO_hasB (e := e) g3).1] at hb1
      rw [(renO_hasB (e := f) f3).1] at hb2
      have := hinj i i' e f o0 o1 g2 f2 he hf hb1 hb2 hb
      subst this
      exact news_inj h1 g1 f1
    · unfold renR
      split
      · rename_i p hp
        have q1 := List.mem_of_find?_eq_some hp
        have q2 := List.find?_some hp
        have := Nat.eq_of_beq_eq_true q2
        have := h2 p q1
        omega
      · rfl
  refine hn us xs E (renR ps ρ) G _ Ml _ w _ R hE hs (renL_den h1 _ _ _ h3 hd) hsp fun v M' n' E' ρ' w' z kv hE' hm hpin hs' hz => ?_
  rw [fP_eq] at kv
  generalize outQ k nx ps (walkI M' 200 (upTo k (idsA v)) []) = qs at kv
  obtain ⟨g1, kv⟩ := must_ok kv
  obtain ⟨g2, kv⟩ := must_ok kv
  have g2 := outB_ok g2
  obtain ⟨v', g3, kv⟩ := atO_ok kv
  obtain ⟨M1, kv, hM1⟩ := delM_ok kv
  obtain ⟨M2, kv, hM2⟩ := renM_over (M1 := M1) (fun j o hj => .inr hj) (fun p hp => hp) kv
  rw [fN_eq] at kv
  obtain ⟨c', hh', hob', hinj'⟩ := hs'.ex
  let ρo : Ren := fun i => if i < nx then ρ i else ρ' (i - nx)
  have lt : ∀ i e, ρ i = some e → i < nx := fun i e q => by
    by_cases q1 : i < nx
    · exact q1
    · rw [h.fresh i (by omega)] at q; cases q
  have hle : ρ.Le ρo := fun i e q => by simp only [ρo, if_pos (lt i e q)]; exact q
  have hq : ∀ j i, (j, i) ∈ qs → ∀ e, ρ' j = some e → ρo i = some e := fun j i hji e he => by
    obtain ⟨q1, ⟨q2, q3⟩ | ⟨q2, q3⟩⟩ := g2 _ hji
    · obtain ⟨o, ho⟩ := hall _ q3
      obtain ⟨e0, a1, _⟩ := hob _ _ ho
      have := hpin j e0 q2 (by rw [renR_at h1 q3]; exact a1)
      rw [this] at he
      cases he
      exact hle _ _ a1
    · simp only at q2 q3
      have : ¬ i < nx := by omega
      simp only [ρo, if_neg this]
      rw [show i - nx = j by omega]; exact he
  have hrle : (renR qs ρ').Le ρo := fun i e q => by
    unfold renR at q
    split at q
    · rename_i p hp
      have q1 := List.mem_of_find?_eq_some hp
      have q2 := List.find?_some hp
      have q2 := Nat.eq_of_beq_eq_true q2
      subst q2
      exact hq p.1 p.2 q1 e q
    · cases q
  have hEE : EEq ρ E ⟨E.at_, E'.M⟩ := ⟨fun _ _ _ => rfl, hm⟩
  refine hr v' M2 (nx + n') ⟨E.at_, E'.M⟩ ρo w' z kv ⟨hEE, hle, hE⟩ ⟨⟨c' ++ c.filter (fun q => !B q), ?_, fun id o hid => ?_, fun i j e f o o' hi hj he hf hb1 hb2 hb => ?_⟩, hs'.mem, fun i hi => ?_⟩ (den_mono hrle _ _ (renA_den g1 _ _ _ g3 hz))
  · exact hh'.perm (by simp)
  · rcases hM2 id o hid with ⟨j, o0, p1, p2, p3⟩ | p1
    · obtain ⟨e, a1, q⟩ := hob' j o0 p2
      have hHB := renO_hasB (e := e) p3
      refine ⟨e, hq j id p1 e a1, ?_⟩
      rcases q with ⟨q1, ob, q2, q3⟩ | ⟨q1, q2⟩
      · exact .inl ⟨by rw [hHB.1]; exact q1, ob, List.mem_append.2 (.inl q2), (renO_rel (t2 := E.at_) g1 p3 q3).mono hrle⟩
      · exact .inr ⟨by rw [hHB.1]; exact q1, hHB.2 q2⟩
    · obtain ⟨q1, q2⟩ := hM1 id o p1
      obtain ⟨e, a1, q⟩ := hob id o q1
      refine ⟨e, hle _ _ a1, ?_⟩
      rcases q with ⟨r1, ob, r2, r3⟩ | r
      · refine .inl ⟨r1, ob, List.mem_append.2 (.inr (List.mem_filter.2 ⟨r2, ?_⟩)), (r3.env hEE).mono hle⟩
        have : ¬ B (e.b, ob) = true := fun hb => by
          obtain ⟨p, s1, e2, o2, s2, s3, s4, s5⟩ := (hB _).1 hb
          exact q2 p s1 (hinj p.1 id e2 e o2 o s4 q1 s2 a1 s5 r1 s3)
        simpa using this
      · exact .inr r
  · have nd := hh'.nodup
    simp only [List.flatten_cons, List.map_append] at nd
    have ap : ∀ b, b ∈ c'.map (·.1) → b ∈ (c.filter fun q => !B q).map (·.1) → False := fun b b1 b2 =>
      (List.nodup_append.1 nd).2.2 b b1 b (List.mem_append.2 (.inl b2)) rfl
    have blkN : ∀ id o e, (∃ j o0, (j, id) ∈ qs ∧ M'.get j = some o0 ∧ renO qs o0 = some o) → ρo id = some e → hasB e o = true → e.b ∈ c'.map (·.1) := by
      rintro id o e ⟨j, o0, p1, p2, p3⟩ he hb
      obtain ⟨e2, a1, q⟩ := hob' j o0 p2
      have := hq j id p1 e2 a1
      rw [this] at he; cases he
      rcases q with ⟨q1, ob, q2, q3⟩ | ⟨q1, q2⟩
      · exact List.mem_map.2 ⟨_, q2, rfl⟩
      · rw [(renO_hasB (e := e) p3).1, q1] at hb; cases hb
    have blkO : ∀ id o e, M1.get id = some o → ρo id = some e → hasB e o = true → e.b ∈ (c.filter fun q => !B q).map (·.1) := by
      intro id o e p1 he hb
      obtain ⟨q1, q2⟩ := hM1 id o p1
      obtain ⟨e2, a1, q⟩ := hob id o q1
      rw [hle _ _ a1] at he; cases he
      rcases q with ⟨r1, ob, r2, r3⟩ | ⟨r1, r2⟩
      · refine List.mem_map.2 ⟨_, List.mem_filter.2 ⟨r2, ?_⟩, rfl⟩
        have : ¬ B (e.b, ob) = true := fun hb => by
          obtain ⟨p, s1, e3, o2, s2, s3, s4, s5⟩ := (hB _).1 hb
          exact q2 p s1 (hinj p.1 id e3 e o2 o s4 q1 s2 a1 s5 r1 s3)
        simpa using this
      · rw [r1] at hb; cases hb
    rcases hM2 i o hi with m1 | m1 <;> rcases hM2 j o' hj with m2 | m2
    · obtain ⟨j1, o1, p1, p2, p3⟩ := m1
      obtain ⟨j2, o2, r1, r2, r3⟩ := m2
      obtain ⟨e1, a1, _⟩ := hob' j1 o1 p2
      obtain ⟨e2, a2, _⟩ := hob' j2 o2 r2
      have x1 := hq _ _ p1 _ a1
      have x2 := hq _ _ r1 _ a2
      rw [x1] at he; cases he
      rw [x2] at hf; cases hf
      rw [(renO_hasB (e := e) p3).1] at hb1
      rw [(renO_hasB (e := f) r3).1] at hb2
      have := hinj' j1 j2 e f o1 o2 p2 r2 a1 a2 hb1 hb2 hb
      subst this
      exact news_inj g1 p1 r1
    · exact (ap _ (blkN i o e m1 he hb1) (by rw [hb]; exact blkO j o' f m2 hf hb2)).elim
    · exact (ap _ (blkN j o' f m2 hf hb2) (by rw [← hb]; exact blkO i o e m1 he hb1)).elim
    · obtain ⟨q1, _⟩ := hM1 i o m1
      obtain ⟨q2, _⟩ := hM1 j o' m2
      obtain ⟨e1, a1, _⟩ := hob i o q1
      obtain ⟨e2, a2, _⟩ := hob j o' q2
      rw [hle _ _ a1] at he; cases he
      rw [hle _ _ a2] at hf; cases hf
      exact hinj i j e f o o' q1 q2 a1 a2 hb1 hb2 hb
  · have : ¬ i < nx := by omega
    simp only [ρo, if_neg this]
    exact hs'.fresh _ (by omega)
theorem run_fun (hm : P.follows .mixedOrders = true) {cf : CallF} (hcf : CallOk P cf) {lp : LpF} {lf : Nat} {fl : Bool} {pk : Nat} {f N : Nat} {res : XRes} {body : XC} (hf : chkF P f (.mk N res body) = true) (hfl : fl = true → plain body = true) (hkp : keepB pk body = true) (hlp : ∀ b j x, (b, j, x) ∈ lpsOf body → LpOk P N pk lp b j x)
    {vs : List AV} {xs : List Value} (hE : EOk E) (h : Sim E ρ G F M nx w) (hd : denL E ρ vs = some xs) {K : AV → T → Nat → Bool} {R : Ending → World → Prop}
    (h2 : must (Nat.ble (lenL vs) N) (argsX vs 0 .nil fun S => codeX cf lp lf body S M nx fun e S M nx => ifB (Nat.blt 1 e) false (resX res S M fun v => K v M nx)) = true)
    (hr : ∀ v M' nx' E' ρ' w' z, K v M' nx' = true → Rel fl pk E ρ E' ρ' → Sim E' ρ' G F M' nx' w' → den E' ρ' v = some z → R (.returned z) w') : Calls P f xs.toArray w R := by
  unfold chkF at hf
  split at hf
  case h_2 => cases hf
  rename_i N' res' body' fn hx hfn
  cases hx
  split at hf
  case h_2 => cases hf
  rename_i c hb
  obtain ⟨hf, c3⟩ := and2 hf
  obtain ⟨c1, c2⟩ := and2 hf
  have c1 := Nat.eq_of_beq_eq_true c1
  obtain ⟨h3, h4⟩ := must_ok h2
  rw [Nat.ble_eq, lenL_eq] at h3
  have hlen := denL_len hd
  refine calls_of_wp hfn hb ?_
  have hsz : (xs.toArray ++ Array.replicate (fn.ntmps - xs.toArray.size) undef).size = N := by simp; omega
  obtain ⟨S, s, h5⟩ := argsX_ok (a := { tmps := xs.toArray ++ Array.replicate (fn.ntmps - xs.toArray.size) undef, defers := [] }) (N := N) hd (fun i x hi => by
    have hlt := (List.getElem?_eq_some_iff.1 hi).1
    have hv := (List.getElem?_eq_some_iff.1 hi).2
    simp only [Nat.zero_add, Array.getD, hsz]
    rw [dif_pos (by omega)]
    simp [Array.getElem_append, hlt, hv]) (SR.nil hsz rfl) h4
  refine codeX_ok hm hcf body c hE hfl hkp hlp c3 s h h5 fun e S' M' nx' E' ρ' a' w' k1 k2 k3 k4 => ?_
  rcases ifB_ok k1 with ⟨_, g1⟩ | ⟨q, g1⟩
  · cases g1
  · obtain ⟨v, z, r1, r2, r3⟩ := resX_ok k3 k4 c2 g1
    have hR := hr v M' nx' E' ρ' w' z r2 k2 k4 r1
    match e, q with
    | 0, _ => exact ⟨k3.defs, z, r3, hR⟩
    | 1, _ => exact ⟨k3.defs, z, r3, hR⟩
    | n + 2, q =>
      have : Nat.blt 1 (n + 2) = true := by rw [Nat.blt_eq]; omega
      rw [this] at q; cases q
theorem callX_ok (hm : P.follows .mixedOrders = true) {tab : Nat → Option XF} {nat : Nat → List AV → Option ES} {lp : LpF} {lf : Nat} (htab : ∀ f xf, tab f = some xf → chkF P f xf = true ∧ plain (bodyOf xf) = true) (hnat : ∀ f vs k sp, nat f vs = some (.mk k sp) → NatE P f k sp) : ∀ d, CallOk P (callX tab nat lp lf d)
  | 0 => by
    intro f vs M nx K E ρ G F w xs R hE h hd hk hr
    have hk' : (Option.casesOn (nat f vs) false fun es => ES.casesOn es fun k sp => natGo k sp vs M nx K : Bool) = true := hk
    rcases e : nat f vs with _ | ⟨k, sp⟩
    · rw [e] at hk'; cases hk'
    · rw [e] at hk'
      exact natGo_ok (hnat f vs k sp e) hE h hd hk' hr
  | d + 1 => by
    intro f vs M nx K E ρ G F w xs R hE h hd hk hr
    have hk' : (Option.casesOn (nat f vs) (atO (tab f) fun xf => XF.casesOn xf fun N res body =>
      must (Nat.ble (lenL vs) N) (argsX vs 0 .nil fun S => codeX (callX tab nat lp lf d) lp lf body S M nx fun e S M nx => ifB (Nat.blt 1 e) false (resX res S M fun v => K v M nx))) fun es => ES.casesOn es fun k sp => natGo k sp vs M nx K : Bool) = true := hk
    rcases e : nat f vs with _ | ⟨k, sp⟩
    · rw [e] at hk'
      obtain ⟨xf, h1, h2⟩ := atO_ok hk'
      obtain ⟨hf, hp⟩ := htab f xf h1
      obtain ⟨N, res, body⟩ := xf
      have hno : ∀ {x : XC}, plain x = true → lpsOf x = [] := by
        intro x
        induction x with
        | seq x y ihx ihy => intro q; obtain ⟨q1, q2⟩ := and2 (show (plain x && plain y) = true from q); simp [lpsOf, ihx q1, ihy q2]
        | cond p x y ihx ihy => intro q; obtain ⟨q1, q2⟩ := and2 (show (plain x && plain y) = true from q); simp [lpsOf, ihx q1, ihy q2]
        | block k x ih => exact fun q => ih q
        | loop l x ih => exact fun q => ih q
        | inv => intro q; cases q
        | aft => intro q; cases q
        | pre => intro q; cases q
        | spc => intro q; cases q
        | _ => intro _; rfl
      have hk0 : ∀ {x : XC}, plain x = true → keepB 0 x = true := by
        intro x
        induction x with
        | seq x y ihx ihy => intro q; obtain ⟨q1, q2⟩ := and2 (show (plain x && plain y) = true from q); simp [keepB, ihx q1, ihy q2]
        | cond p x y ihx ihy => intro q; obtain ⟨q1, q2⟩ := and2 (show (plain x && plain y) = true from q); simp [keepB, ihx q1, ihy q2]
        | block k x ih => exact fun q => ih q
        | loop l x ih => exact fun q => ih q
        | inv => intro q; cases q
        | aft => intro q; cases q
        | pre => intro q; cases q
        | spc => intro q; cases q
        | _ => intro _; rfl
      exact run_fun (fl := true) (pk := 0) hm (callX_ok hm htab hnat d) hf (fun _ => hp) (hk0 hp) (fun b j x q => by rw [hno (x := body) hp] at q; cases q) hE h hd h2 fun v M' nx' E' ρ' w' z q1 q2 => hr v M' nx' E' ρ' w' z q1 (q2.ext rfl)
    · rw [e] at hk'
      exact natGo_ok (hnat f vs k sp e) hE h hd hk' hr
/-- What is said of a function, out of its run. -/
theorem natE_of (hm : P.follows .mixedOrders = true) {cf : CallF} (hcf : CallOk P cf) {lp : LpF} {lf f k : Nat} {xf : XF} {sp : SpecE} (hf : chkF P f xf = true) (hkp : keepB k (bodyOf xf) = true) (hlp : ∀ b j x, (b, j, x) ∈ lpsOf (bodyOf xf) → LpOk P (nOf xf) k lp b j x) (hrun : ∀ us M nx K, sp us M nx K = true → funE k cf lp lf xf us M nx K = true) : NatE P f k sp := by
  intro us xs E ρ G F M nx w K R hE hs hd hk hr
  obtain ⟨N, res, body⟩ := xf
  refine run_fun (fl := false) (pk := k) (K := fun v M _ => canV k v M K) (G := G) hm hcf hf (fun q => by cases q) hkp hlp hE hs hd (hrun us M nx K hk) fun v M' nx' E' ρ' w' z q1 q2 q3 q4 => ?_
  obtain ⟨v2, M2, n2, ρ2, f1, f2, f3, f4⟩ := canV_ok q3 q4 q1
  exact hr v2 M2 n2 E' ρ2 w' z f3 q2.one q2.mem (fun i e i1 i2 => f4 i e i1 (q2.pin i e i1 i2)) f1 f2
/-- What is said of a loop, out of its body's run. -/
theorem lp_of (hm : P.follows .mixedOrders = true) {cf : CallF} (hcf : CallOk P cf) {lp : LpF} {lf j : Nat} {x : XC} (hkp : keepB pk x = true) {α : Type _} (I : α → SL × T × Nat) (μ : α → Nat) (spec : α → KC → Bool) (hlp : ∀ b j' x', (b, j', x') ∈ lpsOf x → LpOk P N pk lp b j' x')
    (hj : ∀ S M nx K, lp j S M nx K = true → ∃ p, (S, M, nx) = I p ∧ spec p K = true)
    (hbody : ∀ p K, spec p K = true → codeX cf lp lf x (I p).1 (I p).2.1 (I p).2.2 (fun e S M nx => Nat.casesOn e (exB fun p' => must (prB ((S, M, nx) = I p' ∧ μ p' < μ p)) (spec p' K)) (fun e' => K (Nat.succ e') S M nx)) = true) : LpOk P N pk lp true j x := by
  intro c S M nx E ρ G F a w K Q hE hc s h hk hq
  obtain ⟨p, hp, hs⟩ := hj S M nx K hk
  have key : ∀ (n : Nat) (p : α), μ p < n → ∀ {S : SL} {M : T} {nx : Nat} {E : Env} {ρ : Ren} {a : Act} {w : World}, (S, M, nx) = I p → spec p K = true → EOk E → SR E ρ N S a → Sim E ρ G F M nx w →
      (∀ e S' M' nx' E' ρ' a' w', K e S' M' nx' = true → Rel false pk E ρ E' ρ' → SR E' ρ' N S' a' → Sim E' ρ' G F M' nx' w' → Q (exOf e) a' w') → Code.rounds P c Q n a w := by
    intro n
    induction n with
    | zero => intro p hn; omega
    | succ n ih =>
      intro p hn S M nx E ρ a w hI hs hE s h hq
      have hb := hbody p K hs
      rw [← hI] at hb
      refine codeX_ok (fl := false) hm hcf x c hE (fun q => by cases q) hkp hlp hc s h hb fun e S' M' nx' E' ρ' a' w' k1 k2 k3 k4 => ?_
      match e, k1 with
      | 0, k1 =>
        obtain ⟨p', k5⟩ := exB_ok k1
        obtain ⟨⟨k6, k7⟩, k8⟩ := mustP_ok k5
        exact ih p' (by omega) k6 k8 k2.one k3 k4 fun e S2 M2 nx2 E2 ρ2 a2 w2 j1 j2 => hq e _ _ _ _ _ _ _ j1 (k2.trans j2)
      | 1, k1 => exact hq 1 _ _ _ _ _ _ _ k1 k2 k3 k4
      | m + 2, k1 => exact hq (m + 2) _ _ _ _ _ _ _ k1 k2 k3 k4
  exact wp_loop_rounds (μ p + 1) (key (μ p + 1) p (Nat.lt_succ_self _) hp hs hE s h hq)
/-- What is said of a piece of code, out of its run. -/
theorem sp_of (hm : P.follows .mixedOrders = true) {cf : CallF} (hcf : CallOk P cf) {lp : LpF} {lf j : Nat} {x : XC} (hkp : keepB pk x = true) (hlp : ∀ b j' x', (b, j', x') ∈ lpsOf x → LpOk P N pk lp b j' x') (hrun : ∀ S M nx K, lp j S M nx K = true → codeX cf lp lf x S M nx K = true) : LpOk P N pk lp false j x := by
  intro c S M nx E ρ G F a w K Q hE hc s h hk hq
  exact codeX_ok (fl := false) hm hcf x c hE (fun q => by cases q) hkp hlp hc s h (hrun S M nx K hk) hq
end
/-! ### What is said of functions, by their number and their arguments' kinds -/
noncomputable def shp (v : AV) : Nat := AV.casesOn v 0 (fun _ _ => 1) (fun _ => 2) (fun _ => 3) (fun _ _ => 4) (fun _ _ _ _ => 5) (fun _ => 6) 7 8 9 10 11 (fun _ _ => 12) (fun _ _ => 13) (fun _ => 14) (fun _ => 15) (fun _ => 16) (fun _ => 17) (fun s => SY.casesOn s (fun _ _ => 20) (fun _ => 21) (fun _ => 22) (fun _ _ _ _ _ => 23) (fun _ _ _ => 24) (fun _ _ => 25) (fun _ _ _ _ => 26) (fun _ _ _ _ => 27) (fun _ _ _ => 28))
noncomputable def shpN (vs : List AV) (n : Nat) : Nat := Option.casesOn (nth vs n) 0 shp
noncomputable def hasL (vs : List AV) (l : List (Nat × Nat)) : Bool := List.rec true (fun p _ ih => Bool.rec false ih (Nat.beq (shpN vs p.1) p.2)) l
noncomputable def hasS (f g : Nat) (vs : List AV) (l : List (Nat × Nat)) : Bool := Bool.rec false (hasL vs l) (Nat.beq f g)
theorem nat_step {P : Program} {f g k k0 : Nat} {vs : List AV} {sp sp0 : SpecE} {rest : Option ES} {l : List (Nat × Nat)} (h0 : NatE P g k0 sp0) (hr : rest = some (.mk k sp) → NatE P f k sp) (h : (Bool.rec rest (some (ES.mk k0 sp0)) (hasS f g vs l) : Option ES) = some (.mk k sp)) : NatE P f k sp := by
  cases hb : hasS f g vs l with
  | false => rw [hb] at h; exact hr h
  | true =>
    rw [hb] at h
    cases h
    unfold hasS at hb
    cases he : Nat.beq f g with
    | false => rw [he] at hb; cases hb
    | true => rw [Nat.eq_of_beq_eq_true he]; exact h0
theorem mem_step {P : Program} {N k : Nat} {lp : LpF} {b b0 : Bool} {j j0 : Nat} {x x0 : XC} {l : List (Bool × Nat × XC)} (h0 : LpOk P N k lp b0 j0 x0) (hr : (b, j, x) ∈ l → LpOk P N k lp b j x) (h : (b, j, x) ∈ (b0, j0, x0) :: l) : LpOk P N k lp b j x := by
  rcases List.mem_cons.1 h with e | h
  · injection e with e1 e2
    injection e2 with e3 e4
    subst e1; subst e3; subst e4
    exact h0
  · exact hr h
theorem ifB_use {p : Prop} {x y : Bool} (hp : p) (h : ifB (prB p) x y = true) : x = true := by
  rcases ifP_ok h with ⟨_, h⟩ | ⟨q, _⟩
  · exact h
  · exact absurd hp q
end Go.Sy
