/- Definitions and lemmas of the proof, without a condition of their own. -/
import Derived.Test.YtkahniffcehicaaM1
import Derived.LoopN
import Derived.Test.YtkahniffcehicaaProg
import Derived.KernelRfl
namespace Go.Sy
open Go Go.RowKit Go.Eng
inductive XRes | none | one (t : Nat) | two (t u : Nat) | cell (t : Nat) (agg : Bool) (n : Nat)
inductive XF : Type 1 | mk (N : Nat) (res : XRes) (body : XC)
noncomputable def resX (r : XRes) (S : SL) (M : T) (K : AV → Bool) : Bool := XRes.casesOn r (K (.tup [])) (fun t => nb (getS t S) K) (fun t u => nb (getS t S) fun x => nb (getS u S) fun y => K (.tup [x, y])) (fun t agg n => nb (getS t S) fun p => ldY agg n p M K)
noncomputable def argsX (vs : List AV) : Nat → SL → (SL → Bool) → Bool := List.rec (fun _ S K => K S) (fun v _ ih n S K => ih (Nat.succ n) (.cons n v S) K) vs
def chkRes (P : Program) (r : XRes) (rs : List ResultVar) : Bool := match r, rs with
 | .none, [] => true
 | .one t, [.tmp t'] => Nat.beq t t'
 | .two t u, [.tmp t', .tmp u'] => Nat.beq t t' && Nat.beq u u'
 | .cell t agg n, [.cell t' ty] => Nat.beq t t' && decide (isAg P ty = some agg) && decide (szOf P ty = some n)
 | _, _ => false
def bodyOf : XF → XC
 | .mk _ _ b => b
def nOf : XF → Nat
 | .mk n _ _ => n
def chkF (P : Program) (f : Nat) (xf : XF) : Bool := match xf, P.funcs[f]? with
 | .mk N res body, some fn => (match fn.body with | some c => Nat.beq fn.ntmps N && chkRes P res fn.results.toList && chkC P N body c | none => false)
 | _, none => false
abbrev SpecE := List AV → T → Nat → (AV → T → Nat → Bool) → Bool
inductive ES : Type 1 | mk (k : Nat) (sp : SpecE)
noncomputable def fP (l : List (Nat × Nat)) : (List (Nat × Nat) → Bool) → Bool := List.rec (fun K => K []) (fun p _ ih K => fN p.1 fun a => fN p.2 fun b => ih fun l => K ((a, b) :: l)) l
theorem fP_eq : ∀ {l : List (Nat × Nat)} {K : List (Nat × Nat) → Bool}, fP l K = K l
 | [], K => rfl
 | p :: l, K => by
  have : fP (p :: l) K = (fN p.1 fun a => fN p.2 fun b => fP l fun l => K ((a, b) :: l)) := rfl
  rw [this, fN_eq, fN_eq, fP_eq]
def belowB (n : Nat) (ps : List (Nat × Nat)) : Bool := ps.all fun p => Nat.blt p.2 n
theorem belowB_ok {n : Nat} {ps : List (Nat × Nat)} (h : belowB n ps = true) : ∀ p ∈ ps, p.2 < n := fun p hp => by
 have := List.all_eq_true.1 h p hp
 simpa [Nat.blt_eq] using this
noncomputable def canV (k : Nat) (v : AV) (M : T) (K : AV → T → Nat → Bool) : Bool := fP (numd 0 (walkI M 200 (upTo k (idsA v)) [])) fun ps => must (pinsB ps k) (must (newsOk ps) (fN ps.length fun n => must (belowB n ps) (renM ps M ps .leaf fun M' => atO (renA ps v) fun v' => K v' M' n)))
noncomputable def delM (l : List (Nat × Nat)) : T → (T → Bool) → Bool := List.rec (fun M K => K M) (fun p _ ih M K => T.set fuelT M p.1 none fun M => ih M K) l
noncomputable def lkB (ps : List (Nat × Nat)) (j : Nat) : Nat := List.rec 0 (fun p _ ih => Bool.rec ih p.1 (Nat.beq p.2 j)) ps
noncomputable def outQ (k nx : Nat) (ps : List (Nat × Nat)) (l : List Nat) : List (Nat × Nat) := List.rec [] (fun j _ ih => (j, Bool.rec (Nat.add nx j) (lkB ps j) (Nat.blt j k)) :: ih) l
def outB (k nx n : Nat) (ps qs : List (Nat × Nat)) : Bool := qs.all fun q => Nat.blt q.1 n && ((Nat.blt q.1 k && ps.any fun p => Nat.beq p.1 q.2 && Nat.beq p.2 q.1) || (Nat.ble k q.1 && Nat.beq q.2 (nx + q.1)))
noncomputable def natGo (k : Nat) (sp : SpecE) (vs : List AV) (M : T) (nx : Nat) (K : AV → T → Nat → Bool) : Bool := fP (numd 0 (walkI M 200 (idsL vs) [])) fun ps => must (newsOk ps) (fN ps.length fun n => must (belowB n ps) (atO (renL ps vs) fun us => renM ps M ps .leaf fun Ml => sp us Ml n fun v M' n' =>
 fP (outQ k nx ps (walkI M' 200 (upTo k (idsA v)) [])) fun qs => must (newsOk qs) (must (outB k nx n' ps qs) (atO (renA qs v) fun v' => delM ps M fun M1 => renM qs M' qs M1 fun M2 => fN (nx + n') fun n2 => K v' M2 n2))))
noncomputable def callX (tab : Nat → Option XF) (nat : Nat → List AV → Option ES) (lp : LpF) (lf : Nat) : Nat → CallF := Nat.rec (fun f vs M nx K => Option.casesOn (nat f vs) false fun es => ES.casesOn es fun k sp => natGo k sp vs M nx K) (fun _ ih f vs M nx K => Option.casesOn (nat f vs) (atO (tab f) fun xf => XF.casesOn xf fun N res body =>
 must (Nat.ble (lenL vs) N) (argsX vs 0 .nil fun S => codeX ih lp lf body S M nx fun e S M nx => ifB (Nat.blt 1 e) false (resX res S M fun v => K v M nx))) fun es => ES.casesOn es fun k sp => natGo k sp vs M nx K)
noncomputable def funE (k : Nat) (cf : CallF) (lp : LpF) (lf : Nat) (xf : XF) (vs : List AV) (M : T) (nx : Nat) (K : AV → T → Nat → Bool) : Bool := XF.casesOn xf fun N res body => must (Nat.ble (lenL vs) N) (argsX vs 0 .nil fun S => codeX cf lp lf body S M nx fun e S M nx => ifB (Nat.blt 1 e) false (resX res S M fun v => canV k v M K))
section
variable {P : Program} {E : Env} {ρ : Ren} {G : GS} {F : List Chunk} {M : T} {nx : Nat} {w : World} {N : Nat} {S : SL} {a : Act} {ops : Array Oper} {o : Oper} {pk : Nat}
theorem argsX_ok : ∀ {vs : List AV} {xs : List Value} {n : Nat} {S : SL} {K : SL → Bool}, denL E ρ vs = some xs → (∀ i x, xs[i]? = some x → a.tmps.getD (n + i) undef = x) → SR E ρ N S a → argsX vs n S K = true → ∃ S', SR E ρ N S' a ∧ K S' = true
 | [], xs, n, S, K, _, _, s, h => ⟨S, s, h⟩
 | v :: vs, xs, n, S, K, hd, hx, s, h => by
  obtain ⟨y, ys, h1, h2, rfl⟩ := denL_cons hd
  have h' : argsX vs (Nat.succ n) (.cons n v S) K = true := h
  refine argsX_ok h2 (fun i x hi => ?_) ⟨s.size, s.defs, fun t => ?_⟩ h'
  ·have := hx (i + 1) x (by simpa using hi)
   rw [show n + (i + 1) = Nat.succ n + i by omega] at this
   exact this
  ·by_cases e : n = t
   ·subst e
    rw [getS_self]
    exact .inr ⟨y, h1, hx 0 y rfl⟩
   ·rw [getS_ne _ _ e]
    exact s.at_ t
theorem slot_ok (s : SR E ρ N S a) {t : Nat} {K : AV → Bool} (h : nb (getS t S) K = true) : ∃ x, den E ρ (getS t S) = some x ∧ a.tmps.getD t undef = x ∧ K (getS t S) = true := by
 obtain ⟨h1, h2⟩ := nb_ok h
 obtain ⟨x, h3, h4⟩ := (s.at_ t).resolve_left h1
 exact ⟨x, h3, h4, h2⟩
theorem resX_ok (s : SR E ρ N S a) (h : Sim E ρ G F M nx w) {fn : Func} {r : XRes} {K : AV → Bool} (hc : chkRes P r fn.results.toList = true) (hk : resX r S M K = true) : ∃ v z, den E ρ v = some z ∧ K v = true ∧ (results fn a.tmps).run P w = .ok z w := by
 unfold chkRes at hc
 split at hc
 ·rename_i h1
  have hr := toL h1
  exact ⟨.tup [], .tuple #[], by simp [den, denL], hk, results_none hr _ _ _⟩
 ·rename_i t t' h1
  have hr := toL h1
  have := Nat.eq_of_beq_eq_true hc
  subst this
  obtain ⟨x, g1, g2, g3⟩ := slot_ok s (show nb (getS t S) K = true from hk)
  exact ⟨_, x, g1, g3, by rw [results_tmp hr, g2]⟩
 ·rename_i t u t' u' h1
  have hr := toL h1
  obtain ⟨c1, c2⟩ := and2 hc
  have c1 := Nat.eq_of_beq_eq_true c1
  have c2 := Nat.eq_of_beq_eq_true c2
  subst c1; subst c2
  obtain ⟨x, g1, g2, g3⟩ := slot_ok s (show nb (getS t S) (fun x => nb (getS u S) fun y => K (.tup [x, y])) = true from hk)
  obtain ⟨y, g4, g5, g6⟩ := slot_ok s (show nb (getS u S) (fun y => K (.tup [getS t S, y])) = true from g3)
  exact ⟨_, .tuple #[x, y], by simp only [den, denL, g1, g4], g6, by rw [results_tmp2 hr, g2, g5]⟩
 ·rename_i t agg n t' ty h1
  have hr := toL h1
  obtain ⟨hc, c3⟩ := and2 hc
  obtain ⟨c1, c2⟩ := and2 hc
  rw [decide_eq_true_eq] at c2 c3
  have c1 := Nat.eq_of_beq_eq_true c1
  subst c1
  obtain ⟨x, g1, g2, g3⟩ := slot_ok s (show nb (getS t S) (fun p => ldY agg n p M K) = true from hk)
  have fin : ∀ {u : AV} {z : Value}, den E ρ u = some z → K u = true → (Instr.loadAt ty x).run P w = .ok z w → ∃ v z, den E ρ v = some z ∧ K v = true ∧ (results fn a.tmps).run P w = .ok z w := by
   intro u z d1 d2 d3
   refine ⟨u, z, d1, d2, ?_⟩
   have e1 : a.tmps[t]?.getD undef = x := by simpa using g2
   cases x with
   | pointer p =>
    cases p with
    | some ad =>
     simp only [Instr.loadAt, Instr.sureAddr, Sem.run_bind, Sem.run_pure, Result.andThen_ok] at d3
     simp [results, hr, e1, asAddr, d3]
    | none => simp [Instr.loadAt, Instr.sureAddr] at d3
   | _ => simp [Instr.loadAt, Instr.sureAddr] at d3
  obtain ⟨u, z, d1, d2, d3⟩ := ldY_ok (P := P) h g1 g3 c2 c3
  exact fin d1 d2 d3
 ·cases hc
theorem renM_all : ∀ {ps l : List (Nat × Nat)} {M acc : T} {K : T → Bool}, renM ps M l acc K = true → ∀ p ∈ l, ∃ o, M.get p.1 = some o
 | ps, [], M, acc, K, h, p, hp => by simp at hp
 | ps, q :: l, M, acc, K, h, p, hp => by
  have h' : (atO (M.get q.1) fun o => atO (renO ps o) fun o' => T.set fuelT acc q.2 (some o') fun acc => renM ps M l acc K) = true := h
  obtain ⟨o, h1, h2⟩ := atO_ok h'
  obtain ⟨o', h3, h4⟩ := atO_ok h2
  obtain ⟨acc', h5, s1, s2⟩ := T.set_ok _ _ _ _ _ h4
  rcases List.mem_cons.1 hp with rfl | hp
  ·exact ⟨o, h1⟩
  ·exact renM_all h5 p hp
theorem renM_over : ∀ {ps l : List (Nat × Nat)} {M M1 acc : T} {K : T → Bool}, (∀ j o, acc.get j = some o → (∃ i o0, (i, j) ∈ ps ∧ M.get i = some o0 ∧ renO ps o0 = some o) ∨ M1.get j = some o) → (∀ p ∈ l, p ∈ ps) → renM ps M l acc K = true →
  ∃ M', K M' = true ∧ ∀ j o, M'.get j = some o → (∃ i o0, (i, j) ∈ ps ∧ M.get i = some o0 ∧ renO ps o0 = some o) ∨ M1.get j = some o
 | ps, [], M, M1, acc, K, ha, _, h => ⟨acc, h, ha⟩
 | ps, p :: l, M, M1, acc, K, ha, hl, h => by
  have h' : (atO (M.get p.1) fun o => atO (renO ps o) fun o' => T.set fuelT acc p.2 (some o') fun acc => renM ps M l acc K) = true := h
  obtain ⟨o, h1, h2⟩ := atO_ok h'
  obtain ⟨o', h3, h4⟩ := atO_ok h2
  obtain ⟨acc', h5, s1, s2⟩ := T.set_ok _ _ _ _ _ h4
  refine renM_over (fun j ob hj => ?_) (fun q hq => hl q (by simp [hq])) h5
  by_cases e : j = p.2
  ·subst e
   rw [s1] at hj
   cases hj
   exact .inl ⟨p.1, o, hl p (by simp), h1, h3⟩
  ·rw [s2 j e] at hj
   exact ha j ob hj
theorem delM_ok : ∀ {l : List (Nat × Nat)} {M : T} {K : T → Bool}, delM l M K = true → ∃ M', K M' = true ∧ (∀ j o, M'.get j = some o → M.get j = some o ∧ ∀ p ∈ l, p.1 ≠ j)
 | [], M, K, h => ⟨M, h, fun j o hj => ⟨hj, fun p hp => by simp at hp⟩⟩
 | p :: l, M, K, h => by
  have h' : (T.set fuelT M p.1 none fun M => delM l M K) = true := h
  obtain ⟨M1, h1, s1, s2⟩ := T.set_ok _ _ _ _ _ h'
  obtain ⟨M2, h2, h3⟩ := delM_ok h1
  refine ⟨M2, h2, fun j o hj => ?_⟩
  obtain ⟨q1, q2⟩ := h3 j o hj
  have hne : p.1 ≠ j := fun e => by rw [← e, s1] at q1; cases q1
  refine ⟨by rw [← s2 j (fun e => hne e.symm)]; exact q1, fun r hr => ?_⟩
  rcases List.mem_cons.1 hr with rfl | hr
  ·exact hne
  ·exact q2 r hr
theorem outB_ok {k nx n : Nat} {ps qs : List (Nat × Nat)} (h : outB k nx n ps qs = true) : ∀ q ∈ qs, q.1 < n ∧ ((q.1 < k ∧ (q.2, q.1) ∈ ps) ∨ (k ≤ q.1 ∧ q.2 = nx + q.1)) := fun q hq => by
 have := List.all_eq_true.1 h q hq
 simp only [Bool.and_eq_true, Bool.or_eq_true, Nat.blt_eq, Nat.ble_eq] at this
 obtain ⟨h1, h2⟩ := this
 refine ⟨h1, ?_⟩
 rcases h2 with ⟨h2, h3⟩ | ⟨h2, h3⟩
 ·obtain ⟨p, q1, q2⟩ := List.any_eq_true.1 h3
  simp only [Bool.and_eq_true] at q2
  have e1 := Nat.eq_of_beq_eq_true q2.1
  have e2 := Nat.eq_of_beq_eq_true q2.2
  have : p = (q.2, q.1) := by cases p; simp_all
  rw [this] at q1
  exact .inl ⟨h2, q1⟩
 ·exact .inr ⟨h2, Nat.eq_of_beq_eq_true h3⟩
theorem canV_ok (h : Sim E ρ G F M nx w) {k : Nat} {v : AV} {x : Value} {K : AV → T → Nat → Bool} (hd : den E ρ v = some x) (hk : canV k v M K = true) :
  ∃ v' M' n' ρ', Sim E ρ' G F M' n' w ∧ den E ρ' v' = some x ∧ K v' M' n' = true ∧ ∀ i e, i < k → ρ i = some e → ρ' i = some e := by
 unfold canV at hk
 rw [fP_eq] at hk
 generalize numd 0 (walkI M 200 (upTo k (idsA v)) []) = ps at hk
 obtain ⟨h1, hk⟩ := must_ok hk
 obtain ⟨h2, hk⟩ := must_ok hk
 rw [fN_eq] at hk
 obtain ⟨h3, hk⟩ := must_ok hk
 obtain ⟨M', h4, h5⟩ := renM_ok (ps := ps) (fun j o hj => by simp [T.get_leaf] at hj) (fun p hp => hp) hk
 obtain ⟨v', h6, h7⟩ := atO_ok h4
 exact ⟨v', M', _, renR ps ρ, h.ren h2 (belowB_ok h3) h5, renA_den h2 _ _ _ h6 hd, h7, fun i e q1 q2 => by rw [renR_at h2 (pinsB_ok h1 i q1)]; exact q2⟩
def NatE (P : Program) (f k : Nat) (sp : SpecE) : Prop := ∀ (us : List AV) (xs : List Value) (E : Env) (ρ : Ren) (G : GS) (F : List Chunk) (M : T) (nx : Nat) (w : World) (K : AV → T → Nat → Bool) (R : Ending → World → Prop), EOk E → Sim E ρ G F M nx w → denL E ρ us = some xs → sp us M nx K = true →
 (∀ v M' nx' E' ρ' w' z, K v M' nx' = true → EOk E' → MLe E.M E'.M → (∀ i e, i < k → ρ i = some e → ρ' i = some e) → Sim E' ρ' G F M' nx' w' → den E' ρ' v = some z → R (.returned z) w') → Calls P f xs.toArray w R
theorem natGo_ok {f k : Nat} {sp : SpecE} (hn : NatE P f k sp) {vs : List AV} {xs : List Value} {K : AV → T → Nat → Bool} {R : Ending → World → Prop} (hE : EOk E) (h : Sim E ρ G F M nx w) (hd : denL E ρ vs = some xs) (hk : natGo k sp vs M nx K = true)
  (hr : ∀ v M' nx' E' ρ' w' z, K v M' nx' = true → Ext E ρ E' ρ' → Sim E' ρ' G F M' nx' w' → den E' ρ' v = some z → R (.returned z) w') : Calls P f xs.toArray w R := by
 classical
 unfold natGo at hk
 rw [fP_eq] at hk
 generalize numd 0 (walkI M 200 (idsL vs) []) = ps at hk
 obtain ⟨h1, hk⟩ := must_ok hk
 rw [fN_eq] at hk
 obtain ⟨h2, hk⟩ := must_ok hk
 have h2 := belowB_ok h2
 obtain ⟨us, h3, hk⟩ := atO_ok hk
 have hall := renM_all hk
 obtain ⟨Ml, hsp, hMl⟩ := renM_ok (ps := ps) (fun j o hj => by simp [T.get_leaf] at hj) (fun p hp => hp) hk
 obtain ⟨c, hh, hob, hinj⟩ := h.ex
 let B : Nat × Obj → Bool := fun q => decide (∃ p ∈ ps, ∃ e o, ρ p.1 = some e ∧ e.b = q.1 ∧ M.get p.1 = some o ∧ hasB e o = true)
 have hB : ∀ q : Nat × Obj, B q = true ↔ ∃ p ∈ ps, ∃ e o, ρ p.1 = some e ∧ e.b = q.1 ∧ M.get p.1 = some o ∧ hasB e o = true := fun q => by simp only [B, decide_eq_true_eq]
 have hh1 : Holds { G with M := E.M } w (c.filter B :: c.filter (fun q => !B q) :: F) := hh.perm (by
  simp only [List.flatten_cons, ← List.append_assoc]
  exact (List.filter_append_perm B c).append_right _)
 have hs : Sim E (renR ps ρ) G (c.filter (fun q => !B q) :: F) Ml ps.length w := by
  refine ⟨⟨c.filter B, hh1, fun j o hj => ?_, fun j k e f o o' hj hk he hf hb1 hb2 hb => ?_⟩, h.mem, fun j hj => ?_⟩
  ·obtain ⟨i, o0, g1, g2, g3⟩ := hMl j o hj
   obtain ⟨e, a1, q⟩ := hob i o0 g2
   have hHB := renO_hasB (e := e) g3
   refine ⟨e, by rw [renR_at h1 g1]; exact a1, ?_⟩
   rcases q with ⟨q1, ob, q2, q3⟩ | ⟨q1, q2⟩
   ·exact .inl ⟨by rw [hHB.1]; exact q1, ob, List.mem_filter.2 ⟨q2, (hB _).2 ⟨(i, j), g1, e, o0, a1, rfl, g2, q1⟩⟩, renO_rel h1 g3 q3⟩
   ·exact .inr ⟨by rw [hHB.1]; exact q1, hHB.2 q2⟩
  ·obtain ⟨i, o0, g1, g2, g3⟩ := hMl j o hj
   obtain ⟨i', o1, f1, f2, f3⟩ := hMl k o' hk
   rw [renR_at h1 g1] at he
   rw [renR_at h1 f1] at hf
   rw [(renO_hasB (e := e) g3).1] at hb1
   rw [(renO_hasB (e := f) f3).1] at hb2
   have := hinj i i' e f o0 o1 g2 f2 he hf hb1 hb2 hb
   subst this
   exact news_inj h1 g1 f1
  ·unfold renR
   split
   ·rename_i p hp
    have q1 := List.mem_of_find?_eq_some hp
    have q2 := List.find?_some hp
    have := Nat.eq_of_beq_eq_true q2
    have := h2 p q1
    omega
   ·rfl
 refine hn us xs E (renR ps ρ) G _ Ml _ w _ R hE hs (renL_den h1 _ _ _ h3 hd) hsp fun v M' n' E' ρ' w' z kv hE' hm hpin hs' hz => ?_
 rw [fP_eq] at kv
 generalize outQ k nx ps (walkI M' 200 (upTo k (idsA v)) []) = qs at kv
 obtain ⟨g1, kv⟩ := must_ok kv
 obtain ⟨g2, kv⟩ := must_ok kv
 have g2 := outB_ok g2
 obtain ⟨v', g3, kv⟩ := atO_ok kv
 obtain ⟨M1, kv, hM1⟩ := delM_ok kv
 obtain ⟨M2, kv, hM2⟩ := renM_over (M1 := M1) (fun j o hj => .inr hj) (fun p hp => hp) kv
 rw [fN_eq] at kv
 obtain ⟨c', hh', hob', hinj'⟩ := hs'.ex
 let ρo : Ren := fun i => if i < nx then ρ i else ρ' (i - nx)
 have lt : ∀ i e, ρ i = some e → i < nx := fun i e q => by
  by_cases q1 : i < nx
  ·exact q1
  ·rw [h.fresh i (by omega)] at q; cases q
 have hle : ρ.Le ρo := fun i e q => by simp only [ρo, if_pos (lt i e q)]; exact q
 have hq : ∀ j i, (j, i) ∈ qs → ∀ e, ρ' j = some e → ρo i = some e := fun j i hji e he => by
  obtain ⟨q1, ⟨q2, q3⟩ | ⟨q2, q3⟩⟩ := g2 _ hji
  ·obtain ⟨o, ho⟩ := hall _ q3
   obtain ⟨e0, a1, _⟩ := hob _ _ ho
   have := hpin j e0 q2 (by rw [renR_at h1 q3]; exact a1)
   rw [this] at he
   cases he
   exact hle _ _ a1
  ·simp only at q2 q3
   have : ¬ i < nx := by omega
   simp only [ρo, if_neg this]
   rw [show i - nx = j by omega]; exact he
 have hrle : (renR qs ρ').Le ρo := fun i e q => by
  unfold renR at q
  split at q
  ·rename_i p hp
   have q1 := List.mem_of_find?_eq_some hp
   have q2 := List.find?_some hp
   have q2 := Nat.eq_of_beq_eq_true q2
   subst q2
   exact hq p.1 p.2 q1 e q
  ·cases q
 have hEE : EEq ρ E ⟨E.at_, E'.M⟩ := ⟨fun _ _ _ => rfl, hm⟩
 refine hr v' M2 (nx + n') ⟨E.at_, E'.M⟩ ρo w' z kv ⟨hEE, hle, hE⟩ ⟨⟨c' ++ c.filter (fun q => !B q), ?_, fun id o hid => ?_, fun i j e f o o' hi hj he hf hb1 hb2 hb => ?_⟩, hs'.mem, fun i hi => ?_⟩ (den_mono hrle _ _ (renA_den g1 _ _ _ g3 hz))
 ·exact hh'.perm (by simp)
 ·rcases hM2 id o hid with ⟨j, o0, p1, p2, p3⟩ | p1
  ·obtain ⟨e, a1, q⟩ := hob' j o0 p2
   have hHB := renO_hasB (e := e) p3
   refine ⟨e, hq j id p1 e a1, ?_⟩
   rcases q with ⟨q1, ob, q2, q3⟩ | ⟨q1, q2⟩
   ·exact .inl ⟨by rw [hHB.1]; exact q1, ob, List.mem_append.2 (.inl q2), (renO_rel (t2 := E.at_) g1 p3 q3).mono hrle⟩
   ·exact .inr ⟨by rw [hHB.1]; exact q1, hHB.2 q2⟩
  ·obtain ⟨q1, q2⟩ := hM1 id o p1
   obtain ⟨e, a1, q⟩ := hob id o q1
   refine ⟨e, hle _ _ a1, ?_⟩
   rcases q with ⟨r1, ob, r2, r3⟩ | r
   ·refine .inl ⟨r1, ob, List.mem_append.2 (.inr (List.mem_filter.2 ⟨r2, ?_⟩)), (r3.env hEE).mono hle⟩
    have : ¬ B (e.b, ob) = true := fun hb => by
     obtain ⟨p, s1, e2, o2, s2, s3, s4, s5⟩ := (hB _).1 hb
     exact q2 p s1 (hinj p.1 id e2 e o2 o s4 q1 s2 a1 s5 r1 s3)
    simpa using this
   ·exact .inr r
 ·have nd := hh'.nodup
  simp only [List.flatten_cons, List.map_append] at nd
  have ap : ∀ b, b ∈ c'.map (·.1) → b ∈ (c.filter fun q => !B q).map (·.1) → False := fun b b1 b2 =>
   (List.nodup_append.1 nd).2.2 b b1 b (List.mem_append.2 (.inl b2)) rfl
  have blkN : ∀ id o e, (∃ j o0, (j, id) ∈ qs ∧ M'.get j = some o0 ∧ renO qs o0 = some o) → ρo id = some e → hasB e o = true → e.b ∈ c'.map (·.1) := by
   rintro id o e ⟨j, o0, p1, p2, p3⟩ he hb
   obtain ⟨e2, a1, q⟩ := hob' j o0 p2
   have := hq j id p1 e2 a1
   rw [this] at he; cases he
   rcases q with ⟨q1, ob, q2, q3⟩ | ⟨q1, q2⟩
   ·exact List.mem_map.2 ⟨_, q2, rfl⟩
   ·rw [(renO_hasB (e := e) p3).1, q1] at hb; cases hb
  have blkO : ∀ id o e, M1.get id = some o → ρo id = some e → hasB e o = true → e.b ∈ (c.filter fun q => !B q).map (·.1) := by
   intro id o e p1 he hb
   obtain ⟨q1, q2⟩ := hM1 id o p1
   obtain ⟨e2, a1, q⟩ := hob id o q1
   rw [hle _ _ a1] at he; cases he
   rcases q with ⟨r1, ob, r2, r3⟩ | ⟨r1, r2⟩
   ·refine List.mem_map.2 ⟨_, List.mem_filter.2 ⟨r2, ?_⟩, rfl⟩
    have : ¬ B (e.b, ob) = true := fun hb => by
     obtain ⟨p, s1, e3, o2, s2, s3, s4, s5⟩ := (hB _).1 hb
     exact q2 p s1 (hinj p.1 id e3 e o2 o s4 q1 s2 a1 s5 r1 s3)
    simpa using this
   ·rw [r1] at hb; cases hb
  rcases hM2 i o hi with m1 | m1 <;> rcases hM2 j o' hj with m2 | m2
  ·obtain ⟨j1, o1, p1, p2, p3⟩ := m1
   obtain ⟨j2, o2, r1, r2, r3⟩ := m2
   obtain ⟨e1, a1, _⟩ := hob' j1 o1 p2
   obtain ⟨e2, a2, _⟩ := hob' j2 o2 r2
   have x1 := hq _ _ p1 _ a1
   have x2 := hq _ _ r1 _ a2
   rw [x1] at he; cases he
   rw [x2] at hf; cases hf
   rw [(renO_hasB (e := e) p3).1] at hb1
   rw [(renO_hasB (e := f) r3).1] at hb2
   have := hinj' j1 j2 e f o1 o2 p2 r2 a1 a2 hb1 hb2 hb
   subst this
   exact news_inj g1 p1 r1
  ·exact (ap _ (blkN i o e m1 he hb1) (by rw [hb]; exact blkO j o' f m2 hf hb2)).elim
  ·exact (ap _ (blkN j o' f m2 hf hb2) (by rw [← hb]; exact blkO i o e m1 he hb1)).elim
  ·obtain ⟨q1, _⟩ := hM1 i o m1
   obtain ⟨q2, _⟩ := hM1 j o' m2
   obtain ⟨e1, a1, _⟩ := hob i o q1
   obtain ⟨e2, a2, _⟩ := hob j o' q2
   rw [hle _ _ a1] at he; cases he
   rw [hle _ _ a2] at hf; cases hf
   exact hinj i j e f o o' q1 q2 a1 a2 hb1 hb2 hb
 ·have : ¬ i < nx := by omega
  simp only [ρo, if_neg this]
  exact hs'.fresh _ (by omega)
theorem run_fun (hm : P.follows .mixedOrders = true) {cf : CallF} (hcf : CallOk P cf) {lp : LpF} {lf : Nat} {fl : Bool} {pk : Nat} {f N : Nat} {res : XRes} {body : XC} (hf : chkF P f (.mk N res body) = true) (hfl : fl = true → plain body = true) (hkp : keepB pk body = true) (hlp : ∀ b j x, (b, j, x) ∈ lpsOf body → LpOk P N pk lp b j x)
  {vs : List AV} {xs : List Value} (hE : EOk E) (h : Sim E ρ G F M nx w) (hd : denL E ρ vs = some xs) {K : AV → T → Nat → Bool} {R : Ending → World → Prop}
  (h2 : must (Nat.ble (lenL vs) N) (argsX vs 0 .nil fun S => codeX cf lp lf body S M nx fun e S M nx => ifB (Nat.blt 1 e) false (resX res S M fun v => K v M nx)) = true)
  (hr : ∀ v M' nx' E' ρ' w' z, K v M' nx' = true → Rel fl pk E ρ E' ρ' → Sim E' ρ' G F M' nx' w' → den E' ρ' v = some z → R (.returned z) w') : Calls P f xs.toArray w R := by
 unfold chkF at hf
 split at hf
 case h_2 => cases hf
 rename_i N' res' body' fn hx hfn
 cases hx
 split at hf
 case h_2 => cases hf
 rename_i c hb
 obtain ⟨hf, c3⟩ := and2 hf
 obtain ⟨c1, c2⟩ := and2 hf
 have c1 := Nat.eq_of_beq_eq_true c1
 obtain ⟨h3, h4⟩ := must_ok h2
 rw [Nat.ble_eq, lenL_eq] at h3
 have hlen := denL_len hd
 refine calls_of_wp hfn hb ?_
 have hsz : (xs.toArray ++ Array.replicate (fn.ntmps - xs.toArray.size) undef).size = N := by simp; omega
 obtain ⟨S, s, h5⟩ := argsX_ok (a := { tmps := xs.toArray ++ Array.replicate (fn.ntmps - xs.toArray.size) undef, defers := [] }) (N := N) hd (fun i x hi => by
  have hlt := (List.getElem?_eq_some_iff.1 hi).1
  have hv := (List.getElem?_eq_some_iff.1 hi).2
  simp only [Nat.zero_add, Array.getD, hsz]
  rw [dif_pos (by omega)]
  simp [Array.getElem_append, hlt, hv]) (SR.nil hsz rfl) h4
 refine codeX_ok hm hcf body c hE hfl hkp hlp c3 s h h5 fun e S' M' nx' E' ρ' a' w' k1 k2 k3 k4 => ?_
 rcases ifB_ok k1 with ⟨_, g1⟩ | ⟨q, g1⟩
 ·cases g1
 ·obtain ⟨v, z, r1, r2, r3⟩ := resX_ok k3 k4 c2 g1
  have hR := hr v M' nx' E' ρ' w' z r2 k2 k4 r1
  match e, q with
  | 0, _ => exact ⟨k3.defs, z, r3, hR⟩
  | 1, _ => exact ⟨k3.defs, z, r3, hR⟩
  | n + 2, q =>
   have : Nat.blt 1 (n + 2) = true := by rw [Nat.blt_eq]; omega
   rw [this] at q; cases q
theorem callX_ok (hm : P.follows .mixedOrders = true) {tab : Nat → Option XF} {nat : Nat → List AV → Option ES} {lp : LpF} {lf : Nat} (htab : ∀ f xf, tab f = some xf → chkF P f xf = true ∧ plain (bodyOf xf) = true) (hnat : ∀ f vs k sp, nat f vs = some (.mk k sp) → NatE P f k sp) : ∀ d, CallOk P (callX tab nat lp lf d)
 | 0 => by
  intro f vs M nx K E ρ G F w xs R hE h hd hk hr
  have hk' : (Option.casesOn (nat f vs) false fun es => ES.casesOn es fun k sp => natGo k sp vs M nx K : Bool) = true := hk
  rcases e : nat f vs with _ | ⟨k, sp⟩
  ·rw [e] at hk'; cases hk'
  ·rw [e] at hk'
   exact natGo_ok (hnat f vs k sp e) hE h hd hk' hr
 | d + 1 => by
  intro f vs M nx K E ρ G F w xs R hE h hd hk hr
  have hk' : (Option.casesOn (nat f vs) (atO (tab f) fun xf => XF.casesOn xf fun N res body =>
   must (Nat.ble (lenL vs) N) (argsX vs 0 .nil fun S => codeX (callX tab nat lp lf d) lp lf body S M nx fun e S M nx => ifB (Nat.blt 1 e) false (resX res S M fun v => K v M nx))) fun es => ES.casesOn es fun k sp => natGo k sp vs M nx K : Bool) = true := hk
  rcases e : nat f vs with _ | ⟨k, sp⟩
  ·rw [e] at hk'
   obtain ⟨xf, h1, h2⟩ := atO_ok hk'
   obtain ⟨hf, hp⟩ := htab f xf h1
   obtain ⟨N, res, body⟩ := xf
   have hno : ∀ {x : XC}, plain x = true → lpsOf x = [] := by
    intro x
    induction x with
    | seq x y ihx ihy => intro q; obtain ⟨q1, q2⟩ := and2 (show (plain x && plain y) = true from q); simp [lpsOf, ihx q1, ihy q2]
    | cond p x y ihx ihy => intro q; obtain ⟨q1, q2⟩ := and2 (show (plain x && plain y) = true from q); simp [lpsOf, ihx q1, ihy q2]
    | block k x ih => exact fun q => ih q
    | loop l x ih => exact fun q => ih q
    | inv => intro q; cases q
    | aft => intro q; cases q
    | pre => intro q; cases q
    | spc => intro q; cases q
    | _ => intro _; rfl
   have hk0 : ∀ {x : XC}, plain x = true → keepB 0 x = true := by
    intro x
    induction x with
    | seq x y ihx ihy => intro q; obtain ⟨q1, q2⟩ := and2 (show (plain x && plain y) = true from q); simp [keepB, ihx q1, ihy q2]
    | cond p x y ihx ihy => intro q; obtain ⟨q1, q2⟩ := and2 (show (plain x && plain y) = true from q); simp [keepB, ihx q1, ihy q2]
    | block k x ih => exact fun q => ih q
    | loop l x ih => exact fun q => ih q
    | inv => intro q; cases q
    | aft => intro q; cases q
    | pre => intro q; cases q
    | spc => intro q; cases q
    | _ => intro _; rfl
   exact run_fun (fl := true) (pk := 0) hm (callX_ok hm htab hnat d) hf (fun _ => hp) (hk0 hp) (fun b j x q => by rw [hno (x := body) hp] at q; cases q) hE h hd h2 fun v M' nx' E' ρ' w' z q1 q2 => hr v M' nx' E' ρ' w' z q1 (q2.ext rfl)
  ·rw [e] at hk'
   exact natGo_ok (hnat f vs k sp e) hE h hd hk' hr
theorem natE_of (hm : P.follows .mixedOrders = true) {cf : CallF} (hcf : CallOk P cf) {lp : LpF} {lf f k : Nat} {xf : XF} {sp : SpecE} (hf : chkF P f xf = true) (hkp : keepB k (bodyOf xf) = true) (hlp : ∀ b j x, (b, j, x) ∈ lpsOf (bodyOf xf) → LpOk P (nOf xf) k lp b j x) (hrun : ∀ us M nx K, sp us M nx K = true → funE k cf lp lf xf us M nx K = true) : NatE P f k sp := by
 intro us xs E ρ G F M nx w K R hE hs hd hk hr
 obtain ⟨N, res, body⟩ := xf
 refine run_fun (fl := false) (pk := k) (K := fun v M _ => canV k v M K) (G := G) hm hcf hf (fun q => by cases q) hkp hlp hE hs hd (hrun us M nx K hk) fun v M' nx' E' ρ' w' z q1 q2 q3 q4 => ?_
 obtain ⟨v2, M2, n2, ρ2, f1, f2, f3, f4⟩ := canV_ok q3 q4 q1
 exact hr v2 M2 n2 E' ρ2 w' z f3 q2.one q2.mem (fun i e i1 i2 => f4 i e i1 (q2.pin i e i1 i2)) f1 f2
theorem lp_of (hm : P.follows .mixedOrders = true) {cf : CallF} (hcf : CallOk P cf) {lp : LpF} {lf j : Nat} {x : XC} (hkp : keepB pk x = true) {α : Type _} (I : α → SL × T × Nat) (μ : α → Nat) (spec : α → KC → Bool) (hlp : ∀ b j' x', (b, j', x') ∈ lpsOf x → LpOk P N pk lp b j' x')
  (hj : ∀ S M nx K, lp j S M nx K = true → ∃ p, (S, M, nx) = I p ∧ spec p K = true)
  (hbody : ∀ p K, spec p K = true → codeX cf lp lf x (I p).1 (I p).2.1 (I p).2.2 (fun e S M nx => Nat.casesOn e (exB fun p' => must (prB ((S, M, nx) = I p' ∧ μ p' < μ p)) (spec p' K)) (fun e' => K (Nat.succ e') S M nx)) = true) : LpOk P N pk lp true j x := by
 intro c S M nx E ρ G F a w K Q hE hc s h hk hq
 obtain ⟨p, hp, hs⟩ := hj S M nx K hk
 have key : ∀ (n : Nat) (p : α), μ p < n → ∀ {S : SL} {M : T} {nx : Nat} {E : Env} {ρ : Ren} {a : Act} {w : World}, (S, M, nx) = I p → spec p K = true → EOk E → SR E ρ N S a → Sim E ρ G F M nx w →
   (∀ e S' M' nx' E' ρ' a' w', K e S' M' nx' = true → Rel false pk E ρ E' ρ' → SR E' ρ' N S' a' → Sim E' ρ' G F M' nx' w' → Q (exOf e) a' w') → Code.rounds P c Q n a w := by
  intro n
  induction n with
  | zero => intro p hn; omega
  | succ n ih =>
   intro p hn S M nx E ρ a w hI hs hE s h hq
   have hb := hbody p K hs
   rw [← hI] at hb
   refine codeX_ok (fl := false) hm hcf x c hE (fun q => by cases q) hkp hlp hc s h hb fun e S' M' nx' E' ρ' a' w' k1 k2 k3 k4 => ?_
   match e, k1 with
   | 0, k1 =>
    obtain ⟨p', k5⟩ := exB_ok k1
    obtain ⟨⟨k6, k7⟩, k8⟩ := mustP_ok k5
    exact ih p' (by omega) k6 k8 k2.one k3 k4 fun e S2 M2 nx2 E2 ρ2 a2 w2 j1 j2 => hq e _ _ _ _ _ _ _ j1 (k2.trans j2)
   | 1, k1 => exact hq 1 _ _ _ _ _ _ _ k1 k2 k3 k4
   | m + 2, k1 => exact hq (m + 2) _ _ _ _ _ _ _ k1 k2 k3 k4
 exact wp_loop_rounds (μ p + 1) (key (μ p + 1) p (Nat.lt_succ_self _) hp hs hE s h hq)
theorem sp_of (hm : P.follows .mixedOrders = true) {cf : CallF} (hcf : CallOk P cf) {lp : LpF} {lf j : Nat} {x : XC} (hkp : keepB pk x = true) (hlp : ∀ b j' x', (b, j', x') ∈ lpsOf x → LpOk P N pk lp b j' x') (hrun : ∀ S M nx K, lp j S M nx K = true → codeX cf lp lf x S M nx K = true) : LpOk P N pk lp false j x := by
 intro c S M nx E ρ G F a w K Q hE hc s h hk hq
 exact codeX_ok (fl := false) hm hcf x c hE (fun q => by cases q) hkp hlp hc s h (hrun S M nx K hk) hq
end
noncomputable def shp (v : AV) : Nat := AV.casesOn v 0 (fun _ _ => 1) (fun _ => 2) (fun _ => 3) (fun _ _ => 4) (fun _ _ _ _ => 5) (fun _ => 6) 7 8 9 10 11 (fun _ _ => 12) (fun _ _ => 13) (fun _ => 14) (fun _ => 15) (fun _ => 16) (fun _ => 17) (fun s => SY.casesOn s (fun _ _ => 20) (fun _ => 21) (fun _ => 22) (fun _ _ _ _ _ => 23) (fun _ _ _ => 24) (fun _ _ => 25) (fun _ _ _ _ => 26) (fun _ _ _ _ => 27) (fun _ _ _ => 28))
noncomputable def shpN (vs : List AV) (n : Nat) : Nat := Option.casesOn (nth vs n) 0 shp
noncomputable def hasL (vs : List AV) (l : List (Nat × Nat)) : Bool := List.rec true (fun p _ ih => Bool.rec false ih (Nat.beq (shpN vs p.1) p.2)) l
noncomputable def hasS (f g : Nat) (vs : List AV) (l : List (Nat × Nat)) : Bool := Bool.rec false (hasL vs l) (Nat.beq f g)
theorem nat_step {P : Program} {f g k k0 : Nat} {vs : List AV} {sp sp0 : SpecE} {rest : Option ES} {l : List (Nat × Nat)} (h0 : NatE P g k0 sp0) (hr : rest = some (.mk k sp) → NatE P f k sp) (h : (Bool.rec rest (some (ES.mk k0 sp0)) (hasS f g vs l) : Option ES) = some (.mk k sp)) : NatE P f k sp := by
 cases hb : hasS f g vs l with
 | false => rw [hb] at h; exact hr h
 | true =>
  rw [hb] at h
  cases h
  unfold hasS at hb
  cases he : Nat.beq f g with
  | false => rw [he] at hb; cases hb
  | true => rw [Nat.eq_of_beq_eq_true he]; exact h0
theorem mem_step {P : Program} {N k : Nat} {lp : LpF} {b b0 : Bool} {j j0 : Nat} {x x0 : XC} {l : List (Bool × Nat × XC)} (h0 : LpOk P N k lp b0 j0 x0) (hr : (b, j, x) ∈ l → LpOk P N k lp b j x) (h : (b, j, x) ∈ (b0, j0, x0) :: l) : LpOk P N k lp b j x := by
 rcases List.mem_cons.1 h with e | h
 ·injection e with e1 e2
  injection e2 with e3 e4
  subst e1; subst e3; subst e4
  exact h0
 ·exact hr h
theorem ifB_use {p : Prop} {x y : Bool} (hp : p) (h : ifB (prB p) x y = true) : x = true := by
 rcases ifP_ok h with ⟨_, h⟩ | ⟨q, _⟩
 ·exact h
 ·exact absurd hp q
end Go.Sy
namespace Go.Proofs.Try
open Go Go.RowKit Go.Eng Go.Sy
set_option maxRecDepth 100000
def p_ (i d : Nat) (x : XO) : XSt := .p i (some d) none x
def pg_ (i d t : Nat) (b : Bool) (x : XO) : XSt := .p i (some d) (some (t, b)) x
def r_ (i d : Nat) (x : XO) : XSt := .r i (some d) none x
def rg_ (i d t : Nat) (b : Bool) (x : XO) : XSt := .r i (some d) (some (t, b)) x
def e_ (i d : Nat) (x : XO) : XSt := .e i (some d) none x
def e0_ (i : Nat) (x : XO) : XSt := .e i none none x
def c_ (i d f : Nat) (xs : List XP) : XSt := .c i (some d) none f xs
def cg_ (i d t : Nat) (b : Bool) (f : Nat) (xs : List XP) : XSt := .c i (some d) (some (t, b)) f xs
def a_ (i d : Nat) (x : XO) : XSt := .a i d none x
def ag_ (i d t : Nat) (b : Bool) (x : XO) : XSt := .a i d (some (t, b)) x
def m_ (n : Nat) : XO := .mv (.t n)
def n_ (n : Nat) : XO := .nck (.t n)
def f_ (k n : Nat) : XO := .fa k (.t n)
def l_ (n : Nat) : XO := .ld false 1 (.t n)
def k_ (n : Nat) : XO := .len 1 (.t n)
def i_ (n : Nat) : XP := .c (.int 0 (.ofNat n))
def o_ (n : Nat) : AV := .int 0 (.ofNat n)
def g_ (n : Nat) (l : List XSt) : XC := .reg false n (.leaf l)
def h_ (n : Nat) (l : List XSt) : XC := .reg true n (.leaf l)
def tb_Good (f : Nat) (x : XF) : Prop := chkF Try.prog f x = true ∧ plain (bodyOf x) = true
def tb7 : XF := .mk 52 (.one 6) (.seq (g_ 3 [e_ 0 3 (.box 27 (.t 0)), e_ 1 4 (.box 31 (.t 1)), p_ 2 6 (.mv (.c .nilP))]) (.seq (.seq (g_ 14 [r_ 0 10 (.ld true 3 (.t 3)), c_ 1 11 30 [.t 10], p_ 2 12 (.un 0 (.t 11)), p_ 3 13 (m_ 12), rg_ 4 14 13 false (.ld true 3 (.t 3)), rg_ 5 15 13 false (.ld true 2 (.t 4)), cg_ 6 16 13 false 31 [(.t 14), (.t 15)], pg_ 7 17 13 false (.bin 3 0 (.t 16) (i_ 0)), p_ 8 18 (.pick (.t 13) (.c (.bool true)) (.t 17)), p_ 9 19 (m_ 18), pg_ 10 20 19 false (m_ 2), pg_ 11 21 19 false (k_ 20), pg_ 12 22 19 false (.bin 3 2 (.t 21) (i_ 400)), p_ 13 23 (.pick (.t 19) (.c (.bool true)) (.t 22))]) (.cond (.t 23) (.seq (g_ 1 [p_ 0 6 (.mv (.c .nilP))]) .ret) .skip)) (.seq (.reg true 13 (.split 1 9 (.split 4 9 (.leaf [r_ 0 24 (.ld true 3 (.t 3)), r_ 2 26 (.ld true 2 (.t 4)), p_ 3 27 (m_ 2), p_ 5 29 (m_ 2), p_ 6 30 (k_ 29), p_ 7 31 (m_ 2), p_ 8 32 (k_ 31), c_ 1 25 32 [.t 24], a_ 2 26 (.ld true 2 (.t 4)), c_ 4 28 33 [.t 27], a_ 2 26 (.ld true 2 (.t 4)), e_ 9 33 .mkm, a_ 2 26 (.ld true 2 (.t 4)), p_ 10 34 (.bld [(.int 1 (.ofNat 0)), (.int 3 (.ofNat 0)), .nilS, (.int 1 (.ofNat 0)), (.int 2 (.ofNat 0)), .nilS, (o_ 0), (o_ 0), (.bool false), .nilM] [(0, 3), (3, 2), (5, 1), (6, 1), (7, 1), (9, 1)] [(.t 25), (.t 26), (.t 28), (.t 30), (.t 32), (.t 33)]), e_ 11 35 (.box 67 (.t 34)), p_ 12 7 (m_ 35)]) (.leaf [r_ 0 24 (.ld true 3 (.t 3)), r_ 2 26 (.ld true 2 (.t 4)), p_ 3 27 (m_ 2), p_ 5 29 (m_ 2), p_ 6 30 (k_ 29), p_ 7 31 (m_ 2), p_ 8 32 (k_ 31), c_ 1 25 32 [.t 24], a_ 2 26 (.ld true 2 (.t 4)), e_ 9 33 .mkm, a_ 2 26 (.ld true 2 (.t 4)), c_ 4 28 33 [.t 27], a_ 2 26 (.ld true 2 (.t 4)), p_ 10 34 (.bld [(.int 1 (.ofNat 0)), (.int 3 (.ofNat 0)), .nilS, (.int 1 (.ofNat 0)), (.int 2 (.ofNat 0)), .nilS, (o_ 0), (o_ 0), (.bool false), .nilM] [(0, 3), (3, 2), (5, 1), (6, 1), (7, 1), (9, 1)] [(.t 25), (.t 26), (.t 28), (.t 30), (.t 32), (.t 33)]), e_ 11 35 (.box 67 (.t 34)), p_ 12 7 (m_ 35)])) (.leaf [r_ 0 24 (.ld true 3 (.t 3)), r_ 2 26 (.ld true 2 (.t 4)), p_ 3 27 (m_ 2), p_ 5 29 (m_ 2), p_ 6 30 (k_ 29), p_ 7 31 (m_ 2), p_ 8 32 (k_ 31), e_ 9 33 .mkm, a_ 0 24 (.ld true 3 (.t 3)), a_ 2 26 (.ld true 2 (.t 4)), c_ 1 25 32 [.t 24], a_ 2 26 (.ld true 2 (.t 4)), c_ 4 28 33 [.t 27], a_ 2 26 (.ld true 2 (.t 4)), p_ 10 34 (.bld [(.int 1 (.ofNat 0)), (.int 3 (.ofNat 0)), .nilS, (.int 1 (.ofNat 0)), (.int 2 (.ofNat 0)), .nilS, (o_ 0), (o_ 0), (.bool false), .nilM] [(0, 3), (3, 2), (5, 1), (6, 1), (7, 1), (9, 1)] [(.t 25), (.t 26), (.t 28), (.t 30), (.t 32), (.t 33)]), e_ 11 35 (.box 67 (.t 34)), p_ 12 7 (m_ 35)]))) (.seq (.seq (g_ 4 [p_ 0 36 (f_ 2 3), r_ 1 37 (l_ 36), p_ 2 38 (k_ 37), p_ 3 39 (.mv (i_ 0))]) (.block 2 (.loop [2, 6, 7, 9, 37, 38, 39, 40, 41, 42, 43, 44, 45, 46, 47, 48, 49, 50, 51] (.seq (g_ 1 [p_ 0 40 (.bin 3 0 (.t 39) (.t 38))]) (.seq (.cond (.t 40) .skip (.exit 2)) (.seq (.block 3 (.seq (g_ 4 [p_ 0 41 (.ixs 2 (.t 37) (.t 39)), r_ 1 42 (.ld true 2 (.t 41)), e_ 2 9 (.al 31 [(.int 1 (.ofNat 0)), (.int 2 (.ofNat 0))]), e0_ 3 (.st 2 (.t 9) (.t 42))]) (h_ 8 [p_ 0 43 (m_ 7), p_ 1 44 (n_ 43), p_ 2 45 (f_ 9 44), r_ 3 46 (l_ 45), r_ 4 47 (.ld true 2 (.t 9)), p_ 5 48 (m_ 2), p_ 6 49 (k_ 48), e0_ 7 (.mu 2 (.st [(0, 1, false, .int), (1, 1, false, .int)]) (.t 46) (.t 47) (.t 49))]))) (g_ 2 [p_ 0 50 (.bin 0 0 (.t 39) (i_ 1)), p_ 1 39 (m_ 50)]))))))) (.seq (g_ 2 [p_ 0 51 (m_ 7), p_ 1 6 (m_ 51)]) .ret)))))
theorem tb7_g : tb_Good 7 tb7 := ⟨by kernel_rfl, by kernel_rfl⟩
def tb8 : XF := .mk 19 (.cell 2 true 3) (.seq (g_ 1 [e_ 0 2 (.al 27 [(.int 1 (.ofNat 0)), (.int 3 (.ofNat 0)), .nilS])]) (.seq (g_ 3 [p_ 0 5 (.bld [(.int 1 (.ofNat 0)), (.int 3 (.ofNat 0)), .nilS] [(1, 1)] [(.c (.int 3 (.ofNat 1)))]), e_ 1 3 (.al 27 [(.int 1 (.ofNat 0)), (.int 3 (.ofNat 0)), .nilS]), e0_ 2 (.st 3 (.t 3) (.t 5))]) (.seq (.seq (g_ 1 [p_ 0 4 (.mv (i_ 0))]) (.block 2 (.loop [0, 2, 3, 4, 6, 7, 8, 9, 10, 11, 12, 13, 14, 15, 16, 17, 18] (.seq (.seq (g_ 3 [p_ 0 6 (m_ 4), p_ 1 7 (m_ 0), p_ 2 8 (.bin 3 0 (.t 6) (.t 7))]) (.cond (.t 8) .skip (.exit 2))) (.seq (.block 3 (h_ 8 [p_ 0 11 (f_ 2 3), r_ 1 12 (l_ 11), p_ 2 13 (m_ 4), c_ 3 14 9 [.t 13], a_ 1 12 (l_ 11), e_ 4 15 (.bsl 31 2 1 [(.int 1 (.ofNat 0)), (.int 2 (.ofNat 0))] [(0, 2)] [.t 14]), a_ 1 12 (l_ 11), e_ 5 16 (.app 31 2 4 (.t 12) (.t 15)), p_ 6 17 (f_ 2 3), e0_ 7 (.st 1 (.t 17) (.t 16))])) (g_ 3 [p_ 0 9 (m_ 4), p_ 1 10 (.bin 0 0 (.t 9) (i_ 1)), p_ 2 4 (m_ 10)])))))) (.seq (g_ 2 [r_ 0 18 (.ld true 3 (.t 3)), e0_ 1 (.st 3 (.t 2) (.t 18))]) .ret))))
theorem tb8_g : tb_Good 8 tb8 := ⟨by kernel_rfl, by kernel_rfl⟩
def tb9 : XF := .mk 6 (.cell 2 true 2) (.seq (g_ 1 [e_ 0 2 (.al 31 [(.int 1 (.ofNat 0)), (.int 2 (.ofNat 0))])]) (.seq (g_ 4 [p_ 0 3 (m_ 0), p_ 1 4 (.cnv 1 (.t 3)), p_ 2 5 (.bld [(.int 1 (.ofNat 0)), (.int 2 (.ofNat 0))] [(0, 1), (1, 1)] [(.t 4), (.c (.int 2 (.ofNat 1)))]), e0_ 3 (.st 2 (.t 2) (.t 5))]) .ret))
theorem tb9_g : tb_Good 9 tb9 := ⟨by kernel_rfl, by kernel_rfl⟩
def tb10 : XF := .mk 44 (.one 4) (.seq (g_ 2 [e_ 0 3 (.box 45 (.t 1)), p_ 1 4 (.mv (i_ 0))]) (.seq (.block 2 (.seq (h_ 14 [p_ 0 6 (m_ 0), c_ 1 7 34 [.t 6], p_ 2 8 (.un 0 (.t 7)), p_ 3 9 (m_ 8), rg_ 4 10 9 false (.ld true 18 (.t 3)), pg_ 5 11 9 false (m_ 0), pg_ 6 12 9 false (n_ 11), pg_ 7 13 9 false (f_ 0 12), pg_ 8 14 9 false (f_ 0 13), rg_ 9 15 9 false (l_ 14), cg_ 10 16 9 false 35 [(.t 10), (.t 15)], pg_ 11 17 9 false (.un 0 (.t 16)), p_ 12 18 (.pick (.t 9) (.c (.bool true)) (.t 17)), p_ 13 5 (m_ 18)]) (.cond (.t 5) (.seq (g_ 1 [p_ 0 4 (.mv (i_ 1))]) .ret) (.seq (g_ 5 [p_ 0 20 (m_ 0), p_ 1 21 (n_ 20), p_ 2 22 (f_ 8 21), r_ 3 23 (l_ 22), p_ 4 19 (m_ 23)]) (.cond (.t 19) (.seq (g_ 1 [p_ 0 4 (.mv (i_ 17))]) .ret) (.seq (g_ 7 [p_ 0 25 (m_ 0), p_ 1 26 (n_ 25), p_ 2 27 (f_ 5 26), r_ 3 28 (l_ 27), p_ 4 29 (k_ 28), p_ 5 30 (.bin 3 3 (.t 29) (i_ 400)), p_ 6 24 (m_ 30)]) (.cond (.t 24) (.seq (g_ 1 [p_ 0 4 (.mv (i_ 11))]) .ret) .skip))))))) (.seq (h_ 12 [p_ 0 31 (m_ 0), p_ 1 32 (m_ 0), p_ 2 33 (n_ 32), p_ 3 34 (f_ 5 33), r_ 4 35 (l_ 34), r_ 5 36 (.ld true 18 (.t 3)), c_ 6 37 36 [.t 36], a_ 4 35 (l_ 34), e_ 7 38 (.bsl 45 18 1 [(.int 1 (.ofNat 0)), (.int 1 (.ofNat 0)), (.int 2 (.ofNat 0)), (.int 3 (.ofNat 0)), (.int 1 (.ofNat 0)), (.int 1 (.ofNat 0)), (.int 1 (.ofNat 0)), (.int 1 (.ofNat 0)), (.int 1 (.ofNat 0)), (.int 1 (.ofNat 0)), (.int 1 (.ofNat 0)), (.int 3 (.ofNat 0)), .nilS, (.int 1 (.ofNat 0)), (.str []), .nilS, (.int 1 (.ofNat 0)), (.int 2 (.ofNat 0))] [(0, 18)] [.t 37]), a_ 4 35 (l_ 34), e_ 8 39 (.app 45 18 104 (.t 35) (.t 38)), p_ 9 40 (n_ 31), p_ 10 41 (f_ 5 40), e0_ 11 (.st 1 (.t 41) (.t 39))]) (.seq (g_ 2 [p_ 0 42 (m_ 0), c_ 1 43 37 [.t 42]]) (.seq (g_ 1 [p_ 0 4 (.mv (i_ 0))]) .ret)))))
theorem tb10_g : tb_Good 10 tb10 := ⟨by kernel_rfl, by kernel_rfl⟩
def tb11 : XF := .mk 6 (.cell 2 true 18) (.seq (g_ 1 [e_ 0 2 (.al 45 [(.int 1 (.ofNat 0)), (.int 1 (.ofNat 0)), (.int 2 (.ofNat 0)), (.int 3 (.ofNat 0)), (.int 1 (.ofNat 0)), (.int 1 (.ofNat 0)), (.int 1 (.ofNat 0)), (.int 1 (.ofNat 0)), (.int 1 (.ofNat 0)), (.int 1 (.ofNat 0)), (.int 1 (.ofNat 0)), (.int 3 (.ofNat 0)), .nilS, (.int 1 (.ofNat 0)), (.str []), .nilS, (.int 1 (.ofNat 0)), (.int 2 (.ofNat 0))])]) (.seq (g_ 4 [p_ 0 3 (m_ 0), c_ 1 4 9 [.t 3], p_ 2 5 (.bld [(.int 1 (.ofNat 0)), (.int 1 (.ofNat 0)), (.int 2 (.ofNat 0)), (.int 3 (.ofNat 0)), (.int 1 (.ofNat 0)), (.int 1 (.ofNat 0)), (.int 1 (.ofNat 0)), (.int 1 (.ofNat 0)), (.int 1 (.ofNat 0)), (.int 1 (.ofNat 0)), (.int 1 (.ofNat 0)), (.int 3 (.ofNat 0)), .nilS, (.int 1 (.ofNat 0)), (.str []), .nilS, (.int 1 (.ofNat 0)), (.int 2 (.ofNat 0))] [(0, 1), (16, 2)] [(.c (.int 1 (.ofNat 2))), (.t 4)]), e0_ 3 (.st 18 (.t 2) (.t 5))]) .ret))
theorem tb11_g : tb_Good 11 tb11 := ⟨by kernel_rfl, by kernel_rfl⟩
def tb12 : XF := .mk 4 (.one 2) (.seq (g_ 1 [p_ 0 2 (.mv (i_ 0))]) (.seq (g_ 2 [p_ 0 3 (m_ 0), p_ 1 2 (m_ 3)]) .ret))
theorem tb12_g : tb_Good 12 tb12 := ⟨by kernel_rfl, by kernel_rfl⟩
def tb14 : XF := .mk 9 (.one 2) (.seq (g_ 1 [p_ 0 2 (.mv (i_ 0))]) (.seq (.seq (g_ 2 [p_ 0 3 (m_ 0), c_ 1 4 38 [.t 3]]) (.cond (.t 4) (.seq (g_ 1 [p_ 0 2 (.mv (i_ 0))]) .ret) .skip)) (.seq (g_ 5 [p_ 0 5 (m_ 0), p_ 1 6 (n_ 5), p_ 2 7 (f_ 7 6), r_ 3 8 (l_ 7), p_ 4 2 (m_ 8)]) .ret)))
theorem tb14_g : tb_Good 14 tb14 := ⟨by kernel_rfl, by kernel_rfl⟩
def tb15 : XF := .mk 10 (.one 2) (.seq (g_ 1 [p_ 0 2 (.mv (i_ 0))]) (.seq (.seq (g_ 2 [p_ 0 3 (m_ 0), c_ 1 4 38 [.t 3]]) (.cond (.t 4) (.seq (g_ 1 [p_ 0 2 (.mv (i_ 0))]) .ret) .skip)) (.seq (g_ 6 [p_ 0 5 (m_ 0), p_ 1 6 (n_ 5), p_ 2 7 (f_ 5 6), r_ 3 8 (l_ 7), p_ 4 9 (k_ 8), p_ 5 2 (m_ 9)]) .ret)))
theorem tb15_g : tb_Good 15 tb15 := ⟨by kernel_rfl, by kernel_rfl⟩
def tb18 : XF := .mk 8 .none (.seq (g_ 3 [p_ 0 2 (m_ 0), c_ 1 3 38 [.t 2], p_ 2 4 (.un 0 (.t 3))]) (.cond (.t 4) (g_ 4 [p_ 0 5 (m_ 0), p_ 1 6 (n_ 5), p_ 2 7 (f_ 8 6), e0_ 3 (.st 1 (.t 7) (.c (.bool true)))]) .skip))
theorem tb18_g : tb_Good 18 tb18 := ⟨by kernel_rfl, by kernel_rfl⟩
def tb19 : XF := .mk 50 .none (.seq (g_ 1 [e_ 0 4 (.box 31 (.t 1))]) (.seq (.seq (h_ 29 [p_ 0 6 (m_ 0), c_ 1 7 34 [.t 6], p_ 2 8 (.un 0 (.t 7)), p_ 3 9 (m_ 8), rg_ 4 10 9 false (.ld true 2 (.t 4)), pg_ 5 11 9 false (m_ 0), pg_ 6 12 9 false (n_ 11), pg_ 7 13 9 false (f_ 3 12), rg_ 8 14 9 false (.ld true 2 (.t 13)), pg_ 9 15 9 false (.eqs false 2 (.st [(0, 1, false, .int), (1, 1, false, .int)]) (.t 10) (.t 14)), p_ 10 16 (.pick (.t 9) (.c (.bool true)) (.t 15)), p_ 11 17 (m_ 16), pg_ 12 18 17 false (m_ 0), pg_ 13 19 17 false (n_ 18), pg_ 14 20 17 false (f_ 0 19), rg_ 15 21 17 false (.ld true 3 (.t 20)), rg_ 16 22 17 false (.ld true 2 (.t 4)), cg_ 17 23 17 false 31 [(.t 21), (.t 22)], pg_ 18 24 17 false (.bin 3 0 (.t 23) (i_ 0)), p_ 19 25 (.pick (.t 17) (.c (.bool true)) (.t 24)), p_ 20 26 (m_ 25), pg_ 21 27 26 false (m_ 2), pg_ 22 28 26 false (m_ 0), pg_ 23 29 26 false (n_ 28), pg_ 24 30 26 false (f_ 5 29), rg_ 25 31 26 false (l_ 30), pg_ 26 32 26 false (k_ 31), pg_ 27 33 26 false (.bin 3 2 (.t 27) (.t 32)), p_ 28 34 (.pick (.t 26) (.c (.bool true)) (.t 33))]) (.cond (.t 34) .ret .skip)) (.seq (h_ 14 [p_ 0 35 (m_ 0), p_ 1 36 (n_ 35), p_ 2 37 (f_ 9 36), r_ 3 38 (l_ 37), r_ 4 39 (.ld true 2 (.t 4)), p_ 5 40 (m_ 0), p_ 6 41 (n_ 40), p_ 7 42 (f_ 9 41), r_ 8 43 (l_ 42), r_ 9 44 (.ld true 2 (.t 4)), r_ 10 45 (.lk 2 (.st [(0, 1, false, .int), (1, 1, false, .int)]) (o_ 0) false (.t 43) (.t 44)), p_ 11 46 (m_ 2), p_ 12 47 (.mx true (.t 45) (.t 46)), e0_ 13 (.mu 2 (.st [(0, 1, false, .int), (1, 1, false, .int)]) (.t 38) (.t 39) (.t 47))]) (g_ 2 [p_ 0 48 (m_ 0), c_ 1 49 37 [.t 48]]))))
theorem tb19_g : tb_Good 19 tb19 := ⟨by kernel_rfl, by kernel_rfl⟩
def tb23 : XF := .mk 10 (.one 2) (.seq (g_ 1 [p_ 0 2 (.mv (.c .nilS))]) (.seq (.seq (g_ 2 [p_ 0 3 (m_ 0), c_ 1 4 38 [.t 3]]) (.cond (.t 4) (.seq (g_ 1 [p_ 0 2 (.mv (.c .nilS))]) .ret) .skip)) (.seq (g_ 6 [p_ 0 5 (m_ 0), p_ 1 6 (n_ 5), p_ 2 7 (f_ 5 6), r_ 3 8 (l_ 7), c_ 4 9 33 [.t 8], p_ 5 2 (m_ 9)]) .ret)))
theorem tb23_g : tb_Good 23 tb23 := ⟨by kernel_rfl, by kernel_rfl⟩
def tb24 : XF := .mk 15 (.one 2) (.seq (g_ 1 [p_ 0 2 (.mv (.c .nilS))]) (.seq (.seq (g_ 2 [p_ 0 3 (m_ 0), c_ 1 4 38 [.t 3]]) (.cond (.t 4) (.seq (g_ 1 [p_ 0 2 (.mv (.c .nilS))]) .ret) .skip)) (.seq (h_ 11 [p_ 0 5 (m_ 0), p_ 1 6 (n_ 5), p_ 2 7 (f_ 5 6), r_ 3 8 (l_ 7), p_ 4 9 (m_ 0), p_ 5 10 (n_ 9), p_ 6 11 (f_ 6 10), r_ 7 12 (l_ 11), r_ 8 13 (.sls 18 (.t 8) (some (.t 12)) none none), c_ 9 14 33 [.t 13], p_ 10 2 (m_ 14)]) .ret)))
theorem tb24_g : tb_Good 24 tb24 := ⟨by kernel_rfl, by kernel_rfl⟩
def tb26 : XF := .mk 13 (.one 2) (.seq (g_ 1 [p_ 0 2 (.mv (.c (.bool false)))]) (.seq (g_ 11 [p_ 0 3 (m_ 0), c_ 1 4 38 [.t 3], p_ 2 5 (.un 0 (.t 4)), p_ 3 6 (m_ 5), pg_ 4 7 6 true (m_ 0), pg_ 5 8 6 true (n_ 7), pg_ 6 9 6 true (f_ 8 8), rg_ 7 10 6 true (l_ 9), pg_ 8 11 6 true (.un 0 (.t 10)), p_ 9 12 (.pick (.t 6) (.t 11) (.c (.bool false))), p_ 10 2 (m_ 12)]) .ret))
theorem tb26_g : tb_Good 26 tb26 := ⟨by kernel_rfl, by kernel_rfl⟩
def tb30 : XF := .mk 46 (.one 2) (.seq (g_ 2 [e_ 0 1 (.box 27 (.t 0)), p_ 1 2 (.mv (.c (.bool false)))]) (.seq (.seq (g_ 20 [p_ 0 6 (f_ 0 1), r_ 1 7 (l_ 6), p_ 2 8 (.bin 3 3 (.t 7) (.c (.int 1 (.ofNat 4)))), p_ 3 9 (m_ 8), pg_ 4 10 9 false (f_ 1 1), rg_ 5 11 9 false (l_ 10), pg_ 6 12 9 false (.bin 3 4 (.t 11) (.c (.int 3 (.ofNat 0)))), p_ 7 13 (.pick (.t 9) (.c (.bool true)) (.t 12)), p_ 8 14 (m_ 13), pg_ 9 15 14 false (f_ 2 1), rg_ 10 16 14 false (l_ 15), pg_ 11 17 14 false (k_ 16), pg_ 12 18 14 false (.bin 3 4 (.t 17) (i_ 0)), p_ 13 19 (.pick (.t 14) (.c (.bool true)) (.t 18)), p_ 14 20 (m_ 19), pg_ 15 21 20 false (f_ 2 1), rg_ 16 22 20 false (l_ 21), pg_ 17 23 20 false (k_ 22), pg_ 18 24 20 false (.bin 3 2 (.t 23) (i_ 8)), p_ 19 25 (.pick (.t 20) (.c (.bool true)) (.t 24))]) (.cond (.t 25) (.seq (g_ 1 [p_ 0 2 (.mv (.c (.bool false)))]) .ret) .skip)) (.seq (g_ 1 [e_ 0 3 (.al 103 [(.bool false), (.bool false), (.bool false), (.bool false), (.bool false), (.bool false), (.bool false), (.bool false), (.bool false), (.bool false), (.bool false), (.bool false), (.bool false), (.bool false), (.bool false), (.bool false)])]) (.seq (.seq (g_ 4 [p_ 0 26 (f_ 2 1), r_ 1 27 (l_ 26), p_ 2 28 (k_ 27), p_ 3 29 (.mv (i_ 0))]) (.block 2 (.loop [2, 3, 5, 27, 28, 29, 30, 31, 32, 33, 34, 35, 36, 37, 38, 39, 40, 41, 42, 43, 44, 45] (.seq (g_ 1 [p_ 0 30 (.bin 3 0 (.t 29) (.t 28))]) (.seq (.cond (.t 30) .skip (.exit 2)) (.seq (.block 3 (.seq (g_ 4 [p_ 0 31 (.ixs 2 (.t 27) (.t 29)), r_ 1 32 (.ld true 2 (.t 31)), e_ 2 5 (.al 31 [(.int 1 (.ofNat 0)), (.int 2 (.ofNat 0))]), e0_ 3 (.st 2 (.t 5) (.t 32))]) (.seq (.seq (g_ 9 [r_ 0 33 (.ld true 2 (.t 5)), c_ 1 34 43 [.t 33], p_ 2 35 (.un 0 (.t 34)), p_ 3 36 (m_ 35), pg_ 4 37 36 false (f_ 0 5), rg_ 5 38 36 false (l_ 37), pg_ 6 39 36 false (.ixa 16 1 (.t 3) (.t 38)), rg_ 7 40 36 false (l_ 39), p_ 8 41 (.pick (.t 36) (.c (.bool true)) (.t 40))]) (.cond (.t 41) (.seq (g_ 1 [p_ 0 2 (.mv (.c (.bool false)))]) .ret) .skip)) (g_ 4 [p_ 0 42 (f_ 0 5), r_ 1 43 (l_ 42), p_ 2 44 (.ixa 16 1 (.t 3) (.t 43)), e0_ 3 (.st 1 (.t 44) (.c (.bool true)))])))) (g_ 2 [p_ 0 45 (.bin 0 0 (.t 29) (i_ 1)), p_ 1 29 (m_ 45)]))))))) (.seq (g_ 1 [p_ 0 2 (.mv (.c (.bool true)))]) .ret)))))
theorem tb30_g : tb_Good 30 tb30 := ⟨by kernel_rfl, by kernel_rfl⟩
def tb31 : XF := .mk 9 (.one 4) (.seq (g_ 3 [e_ 0 2 (.box 27 (.t 0)), e_ 1 3 (.box 31 (.t 1)), p_ 2 4 (.mv (i_ 0))]) (.seq (g_ 5 [p_ 0 5 (f_ 2 2), r_ 1 6 (l_ 5), r_ 2 7 (.ld true 2 (.t 3)), c_ 3 8 44 [(.t 6), (.t 7)], p_ 4 4 (m_ 8)]) .ret))
theorem tb31_g : tb_Good 31 tb31 := ⟨by kernel_rfl, by kernel_rfl⟩
def tb32 : XF := .mk 8 (.cell 2 true 3) (.seq (g_ 2 [e_ 0 1 (.box 27 (.t 0)), e_ 1 2 (.al 27 [(.int 1 (.ofNat 0)), (.int 3 (.ofNat 0)), .nilS])]) (.seq (g_ 5 [p_ 0 3 (f_ 2 1), r_ 1 4 (l_ 3), c_ 2 5 45 [.t 4], p_ 3 6 (f_ 2 1), e0_ 4 (.st 1 (.t 6) (.t 5))]) (.seq (g_ 2 [r_ 0 7 (.ld true 3 (.t 1)), e0_ 1 (.st 3 (.t 2) (.t 7))]) .ret)))
theorem tb32_g : tb_Good 32 tb32 := ⟨by kernel_rfl, by kernel_rfl⟩
def tb33 : XF := .mk 27 (.one 2) (.seq (g_ 1 [p_ 0 2 (.mv (.c .nilS))]) (.seq (g_ 4 [p_ 0 6 (m_ 0), p_ 1 7 (k_ 6), e_ 2 8 (.mks 45 18 104 [(.int 1 (.ofNat 0)), (.int 1 (.ofNat 0)), (.int 2 (.ofNat 0)), (.int 3 (.ofNat 0)), (.int 1 (.ofNat 0)), (.int 1 (.ofNat 0)), (.int 1 (.ofNat 0)), (.int 1 (.ofNat 0)), (.int 1 (.ofNat 0)), (.int 1 (.ofNat 0)), (.int 1 (.ofNat 0)), (.int 3 (.ofNat 0)), .nilS, (.int 1 (.ofNat 0)), (.str []), .nilS, (.int 1 (.ofNat 0)), (.int 2 (.ofNat 0))] (i_ 0) (.t 7)), p_ 3 3 (m_ 8)]) (.seq (.seq (g_ 3 [p_ 0 9 (m_ 0), p_ 1 10 (k_ 9), p_ 2 11 (.mv (i_ 0))]) (.block 2 (.loop [2, 3, 5, 9, 10, 11, 12, 13, 14, 15, 16, 17, 18, 19, 20, 21, 22, 23, 24, 25, 26] (.seq (g_ 1 [p_ 0 12 (.bin 3 0 (.t 11) (.t 10))]) (.seq (.cond (.t 12) .skip (.exit 2)) (.seq (.block 3 (.seq (g_ 4 [p_ 0 13 (.ixs 18 (.t 9) (.t 11)), r_ 1 14 (.ld true 18 (.t 13)), e_ 2 5 (.al 45 [(.int 1 (.ofNat 0)), (.int 1 (.ofNat 0)), (.int 2 (.ofNat 0)), (.int 3 (.ofNat 0)), (.int 1 (.ofNat 0)), (.int 1 (.ofNat 0)), (.int 1 (.ofNat 0)), (.int 1 (.ofNat 0)), (.int 1 (.ofNat 0)), (.int 1 (.ofNat 0)), (.int 1 (.ofNat 0)), (.int 3 (.ofNat 0)), .nilS, (.int 1 (.ofNat 0)), (.str []), .nilS, (.int 1 (.ofNat 0)), (.int 2 (.ofNat 0))]), e0_ 3 (.st 18 (.t 5) (.t 14))]) (g_ 6 [p_ 0 15 (m_ 3), r_ 1 16 (.ld true 18 (.t 5)), c_ 2 17 36 [.t 16], e_ 3 18 (.bsl 45 18 1 [(.int 1 (.ofNat 0)), (.int 1 (.ofNat 0)), (.int 2 (.ofNat 0)), (.int 3 (.ofNat 0)), (.int 1 (.ofNat 0)), (.int 1 (.ofNat 0)), (.int 1 (.ofNat 0)), (.int 1 (.ofNat 0)), (.int 1 (.ofNat 0)), (.int 1 (.ofNat 0)), (.int 1 (.ofNat 0)), (.int 3 (.ofNat 0)), .nilS, (.int 1 (.ofNat 0)), (.str []), .nilS, (.int 1 (.ofNat 0)), (.int 2 (.ofNat 0))] [(0, 18)] [.t 17]), e_ 4 19 (.app 45 18 104 (.t 15) (.t 18)), p_ 5 3 (m_ 19)]))) (g_ 2 [p_ 0 20 (.bin 0 0 (.t 11) (i_ 1)), p_ 1 11 (m_ 20)]))))))) (.seq (g_ 7 [p_ 0 21 (m_ 3), p_ 1 22 (m_ 3), p_ 2 23 (k_ 22), p_ 3 24 (m_ 3), p_ 4 25 (k_ 24), r_ 5 26 (.sls 18 (.t 21) none (some (.t 23)) (some (.t 25))), p_ 6 2 (m_ 26)]) .ret))))
theorem tb33_g : tb_Good 33 tb33 := ⟨by kernel_rfl, by kernel_rfl⟩
def tb34 : XF := .mk 18 (.one 2) (.seq (g_ 1 [p_ 0 2 (.mv (.c (.bool false)))]) (.seq (h_ 16 [p_ 0 3 (m_ 0), c_ 1 4 38 [.t 3], p_ 2 5 (.un 0 (.t 4)), p_ 3 6 (m_ 5), pg_ 4 7 6 true (m_ 0), pg_ 5 8 6 true (n_ 7), pg_ 6 9 6 true (f_ 3 8), rg_ 7 10 6 true (.ld true 2 (.t 9)), pg_ 8 11 6 true (m_ 0), pg_ 9 12 6 true (n_ 11), pg_ 10 13 6 true (f_ 0 12), rg_ 11 14 6 true (.ld true 3 (.t 13)), cg_ 12 15 6 true 46 [.t 14], ag_ 7 10 6 true (.ld true 2 (.t 9)), pg_ 13 16 6 true (.eqs false 2 (.st [(0, 1, false, .int), (1, 1, false, .int)]) (.t 10) (.t 15)), p_ 14 17 (.pick (.t 6) (.t 16) (.c (.bool false))), p_ 15 2 (m_ 17)]) .ret))
theorem tb34_g : tb_Good 34 tb34 := ⟨by kernel_rfl, by kernel_rfl⟩
def tb35 : XF := .mk 111 (.one 4) (.seq (g_ 2 [e_ 0 2 (.box 45 (.t 0)), p_ 1 4 (.mv (.c (.bool false)))]) (.seq (g_ 3 [p_ 0 7 (.bld [(.int 1 (.ofNat 0)), (.str [])] [] []), e_ 1 5 (.al 42 [(.int 1 (.ofNat 0)), (.str [])]), e0_ 2 (.st 2 (.t 5) (.t 7))]) (.seq (.seq (g_ 2 [p_ 0 8 (f_ 0 2), r_ 1 9 (l_ 8)]) (.block 2 (.seq (g_ 2 [p_ 0 11 (.bin 3 4 (.t 9) (.c (.int 1 (.ofNat 0)))), p_ 1 10 (m_ 11)]) (.cond (.t 10) (.seq (g_ 16 [r_ 0 12 (.ld true 18 (.t 2)), p_ 1 13 (m_ 1), c_ 2 14 47 [(.t 12), (.t 13)], p_ 3 15 (m_ 14), pg_ 4 16 15 true (f_ 13 2), rg_ 5 17 15 true (.ld true 2 (.t 16)), rg_ 6 18 15 true (.ld true 2 (.t 5)), pg_ 7 19 15 true (.eqs false 2 (.st [(0, 1, false, .int), (1, 1, false, .str)]) (.t 17) (.t 18)), p_ 8 20 (.pick (.t 15) (.t 19) (.c (.bool false))), p_ 9 21 (m_ 20), pg_ 10 22 21 true (f_ 15 2), rg_ 11 23 21 true (l_ 22), pg_ 12 24 21 true (k_ 23), pg_ 13 25 21 true (.bin 3 4 (.t 24) (i_ 0)), p_ 14 26 (.pick (.t 21) (.t 25) (.c (.bool false))), p_ 15 4 (m_ 26)]) .ret) (.seq (g_ 2 [p_ 0 28 (.bin 3 4 (.t 9) (.c (.int 1 (.ofNat 3)))), p_ 1 27 (m_ 28)]) (.cond (.t 27) (.seq (g_ 25 [r_ 0 29 (.ld true 18 (.t 2)), p_ 1 30 (m_ 1), c_ 2 31 47 [(.t 29), (.t 30)], p_ 3 32 (m_ 31), pg_ 4 33 32 true (f_ 13 2), rg_ 5 34 32 true (.ld true 2 (.t 33)), cg_ 6 35 32 true 48 [.t 34], p_ 7 36 (.pick (.t 32) (.t 35) (.c (.bool false))), p_ 8 37 (m_ 36), pg_ 9 38 37 true (f_ 13 2), pg_ 10 39 37 true (f_ 0 38), rg_ 11 40 37 true (l_ 39), pg_ 12 41 37 true (.bin 3 5 (.t 40) (.c (.int 1 (.ofNat 4)))), p_ 13 42 (.pick (.t 37) (.t 41) (.c (.bool false))), p_ 14 43 (m_ 42), pg_ 15 44 43 true (f_ 13 2), pg_ 16 45 43 true (f_ 0 44), rg_ 17 46 43 true (l_ 45), pg_ 18 47 43 true (.bin 3 5 (.t 46) (.c (.int 1 (.ofNat 3)))), p_ 19 48 (.pick (.t 43) (.t 47) (.c (.bool false))), p_ 20 49 (m_ 48), rg_ 21 50 49 true (.ld true 18 (.t 2)), cg_ 22 51 49 true 49 [.t 50], p_ 23 52 (.pick (.t 49) (.t 51) (.c (.bool false))), p_ 24 4 (m_ 52)]) .ret) (.seq (g_ 2 [p_ 0 54 (.bin 3 4 (.t 9) (.c (.int 1 (.ofNat 1)))), p_ 1 53 (m_ 54)]) (.cond (.t 53) (.seq (g_ 4 [p_ 0 55 (f_ 1 2), r_ 1 56 (.ld true 10 (.t 55)), e_ 2 6 (.al 39 [(.int 1 (.ofNat 0)), (.int 2 (.ofNat 0)), (.int 3 (.ofNat 0)), (.int 1 (.ofNat 0)), (.int 1 (.ofNat 0)), (.int 1 (.ofNat 0)), (.int 1 (.ofNat 0)), (.int 1 (.ofNat 0)), (.int 1 (.ofNat 0)), (.int 1 (.ofNat 0))]), e0_ 3 (.st 10 (.t 6) (.t 56))]) (.seq (g_ 34 [r_ 0 57 (.ld true 10 (.t 6)), c_ 1 58 50 [.t 57], p_ 2 59 (m_ 58), pg_ 3 60 59 true (f_ 3 6), rg_ 4 61 59 true (l_ 60), pg_ 5 62 59 true (.bin 3 2 (.t 61) (.c (.int 1 (.ofNat 0)))), p_ 6 63 (.pick (.t 59) (.t 62) (.c (.bool false))), p_ 7 64 (m_ 63), pg_ 8 65 64 true (f_ 3 6), rg_ 9 66 64 true (l_ 65), pg_ 10 67 64 true (.bin 0 1 (.t 66) (.c (.int 1 (.ofNat 1)))), pg_ 11 68 64 true (f_ 4 6), pg_ 12 69 64 true (.ixa 3 2 (.t 68) (.t 67)), pg_ 13 70 64 true (f_ 0 69), rg_ 14 71 64 true (l_ 70), pg_ 15 72 64 true (m_ 1), pg_ 16 73 64 true (.bin 3 4 (.t 71) (.t 72)), p_ 17 74 (.pick (.t 64) (.t 73) (.c (.bool false))), p_ 18 75 (m_ 74), pg_ 19 76 75 true (f_ 13 2), rg_ 20 77 75 true (.ld true 2 (.t 76)), cg_ 21 78 75 true 48 [.t 77], p_ 22 79 (.pick (.t 75) (.t 78) (.c (.bool false))), p_ 23 80 (m_ 79), rg_ 24 81 80 true (.ld true 18 (.t 2)), cg_ 25 82 80 true 51 [.t 81], p_ 26 83 (.pick (.t 80) (.t 82) (.c (.bool false))), p_ 27 84 (m_ 83), pg_ 28 85 84 true (f_ 16 2), rg_ 29 86 84 true (.ld true 2 (.t 85)), pg_ 30 87 84 true (.bld [(.int 1 (.ofNat 0)), (.int 2 (.ofNat 0))] [] []), pg_ 31 88 84 true (.eqs false 2 (.st [(0, 1, false, .int), (1, 1, false, .int)]) (.t 86) (.t 87)), p_ 32 89 (.pick (.t 84) (.t 88) (.c (.bool false))), p_ 33 4 (m_ 89)]) .ret)) (.seq (g_ 2 [p_ 0 91 (.bin 3 4 (.t 9) (.c (.int 1 (.ofNat 2)))), p_ 1 90 (m_ 91)]) (.cond (.t 90) (.seq (g_ 20 [p_ 0 92 (f_ 16 2), r_ 1 93 (.ld true 2 (.t 92)), c_ 2 94 43 [.t 93], p_ 3 95 (m_ 94), pg_ 4 96 95 true (f_ 13 2), rg_ 5 97 95 true (.ld true 2 (.t 96)), rg_ 6 98 95 true (.ld true 2 (.t 5)), pg_ 7 99 95 true (.eqs false 2 (.st [(0, 1, false, .int), (1, 1, false, .str)]) (.t 97) (.t 98)), p_ 8 100 (.pick (.t 95) (.t 99) (.c (.bool false))), p_ 9 101 (m_ 100), pg_ 10 102 101 true (f_ 1 2), rg_ 11 103 101 true (.ld true 10 (.t 102)), pg_ 12 104 101 true (.bld [(.int 1 (.ofNat 0)), (.int 2 (.ofNat 0)), (.int 3 (.ofNat 0)), (.int 1 (.ofNat 0)), (.int 1 (.ofNat 0)), (.int 1 (.ofNat 0)), (.int 1 (.ofNat 0)), (.int 1 (.ofNat 0)), (.int 1 (.ofNat 0)), (.int 1 (.ofNat 0))] [] []), pg_ 13 105 101 true (.eqs false 4 (.st [(0, 2, true, (.st [(0, 1, false, .int), (1, 1, false, .int)])), (2, 1, false, .int), (3, 1, false, .int), (4, 6, true, (.ar [0, 2, 4] 2 true (.st [(0, 1, false, .int), (1, 1, false, .int)])))]) (.t 103) (.t 104)), p_ 14 106 (.pick (.t 101) (.t 105) (.c (.bool false))), p_ 15 107 (m_ 106), rg_ 16 108 107 true (.ld true 18 (.t 2)), cg_ 17 109 107 true 51 [.t 108], p_ 18 110 (.pick (.t 107) (.t 109) (.c (.bool false))), p_ 19 4 (m_ 110)]) .ret) .skip)))))))))) (.seq (g_ 1 [p_ 0 4 (.mv (.c (.bool false)))]) .ret))))
theorem tb35_g : tb_Good 35 tb35 := ⟨by kernel_rfl, by kernel_rfl⟩
def tb36 : XF := .mk 12 (.cell 2 true 18) (.seq (g_ 2 [e_ 0 1 (.box 45 (.t 0)), e_ 1 2 (.al 45 [(.int 1 (.ofNat 0)), (.int 1 (.ofNat 0)), (.int 2 (.ofNat 0)), (.int 3 (.ofNat 0)), (.int 1 (.ofNat 0)), (.int 1 (.ofNat 0)), (.int 1 (.ofNat 0)), (.int 1 (.ofNat 0)), (.int 1 (.ofNat 0)), (.int 1 (.ofNat 0)), (.int 1 (.ofNat 0)), (.int 3 (.ofNat 0)), .nilS, (.int 1 (.ofNat 0)), (.str []), .nilS, (.int 1 (.ofNat 0)), (.int 2 (.ofNat 0))])]) (.seq (h_ 10 [p_ 0 3 (f_ 12 1), r_ 1 4 (l_ 3), p_ 3 6 (f_ 15 1), r_ 4 7 (l_ 6), c_ 2 5 52 [.t 4], a_ 4 7 (l_ 6), p_ 6 9 (f_ 12 1), c_ 5 8 53 [.t 7], e0_ 7 (.st 1 (.t 9) (.t 5)), p_ 8 10 (f_ 15 1), e0_ 9 (.st 1 (.t 10) (.t 8))]) (.seq (g_ 2 [r_ 0 11 (.ld true 18 (.t 1)), e0_ 1 (.st 18 (.t 2) (.t 11))]) .ret)))
theorem tb36_g : tb_Good 36 tb36 := ⟨by kernel_rfl, by kernel_rfl⟩
def tb37 : XF := .mk 58 .none (.seq (h_ 14 [p_ 0 5 (m_ 0), p_ 1 6 (n_ 5), p_ 2 7 (f_ 9 6), r_ 3 8 (l_ 7), p_ 4 9 (m_ 0), p_ 5 10 (n_ 9), p_ 6 11 (f_ 3 10), r_ 7 12 (.ld true 2 (.t 11)), p_ 8 13 (m_ 0), p_ 9 14 (n_ 13), p_ 10 15 (f_ 5 14), r_ 11 16 (l_ 15), p_ 12 17 (k_ 16), e0_ 13 (.mu 2 (.st [(0, 1, false, .int), (1, 1, false, .int)]) (.t 8) (.t 12) (.t 17))]) (.seq (g_ 7 [p_ 0 18 (m_ 0), p_ 1 19 (n_ 18), p_ 2 20 (f_ 9 19), r_ 3 21 (l_ 20), r_ 4 22 (.mlen (.t 21)), e_ 5 23 (.mks 3 1 8 [(o_ 0)] (i_ 0) (.t 22)), p_ 6 2 (m_ 23)]) (.seq (.seq (g_ 5 [p_ 0 24 (m_ 0), p_ 1 25 (n_ 24), p_ 2 26 (f_ 9 25), r_ 3 27 (l_ 26), e_ 4 28 (.rng (.t 27))]) (.block 2 (.loop [0, 2, 4, 28, 29, 30, 31, 32, 33, 34, 35, 36, 37, 39, 40, 41, 42, 43, 44, 45, 46, 47, 48, 49, 50, 51, 52, 53, 54, 55, 56, 57] (.seq (g_ 2 [e_ 0 29 (.nxt (.t 28)), p_ 1 30 (.ext 0 (.t 29))]) (.seq (.cond (.t 30) .skip (.exit 2)) (.block 3 (.seq (g_ 3 [r_ 0 31 (.ent (.t 28)), p_ 1 32 (.ext 1 (.t 31)), p_ 2 4 (m_ 32)]) (g_ 5 [p_ 0 33 (m_ 2), p_ 1 34 (m_ 4), e_ 2 35 (.bsl 3 1 1 [(o_ 0)] [(0, 1)] [.t 34]), e_ 3 36 (.app 3 1 8 (.t 33) (.t 35)), p_ 4 2 (m_ 36)])))))))) (.seq (g_ 2 [p_ 0 37 (m_ 2), c_ 1 38 54 [.t 37]]) (h_ 20 [p_ 0 39 (m_ 0), p_ 1 40 (m_ 0), p_ 2 41 (n_ 40), p_ 3 42 (f_ 7 41), r_ 4 43 (l_ 42), p_ 5 44 (m_ 2), p_ 6 45 (m_ 2), p_ 7 46 (k_ 45), p_ 8 47 (m_ 0), p_ 9 48 (n_ 47), p_ 10 49 (f_ 0 48), r_ 11 50 (.ld true 3 (.t 49)), c_ 12 51 55 [.t 50], a_ 4 43 (l_ 42), p_ 13 52 (.bin 0 1 (.t 46) (.t 51)), p_ 14 53 (.ixs 1 (.t 44) (.t 52)), r_ 15 54 (l_ 53), p_ 16 55 (.mx true (.t 43) (.t 54)), p_ 17 56 (n_ 39), p_ 18 57 (f_ 7 56), e0_ 19 (.st 1 (.t 57) (.t 55))])))))
theorem tb37_g : tb_Good 37 tb37 := ⟨by kernel_rfl, by kernel_rfl⟩
def tb38 : XF := .mk 12 (.one 2) (.seq (g_ 1 [p_ 0 2 (.mv (.c (.bool false)))]) (.seq (g_ 10 [p_ 0 3 (m_ 0), p_ 1 4 (.isn false 1 (.t 3)), p_ 2 5 (m_ 4), pg_ 3 6 5 false (m_ 0), pg_ 4 7 5 false (n_ 6), pg_ 5 8 5 false (f_ 9 7), rg_ 6 9 5 false (l_ 8), pg_ 7 10 5 false (.isn false 3 (.t 9)), p_ 8 11 (.pick (.t 5) (.c (.bool true)) (.t 10)), p_ 9 2 (m_ 11)]) .ret))
theorem tb38_g : tb_Good 38 tb38 := ⟨by kernel_rfl, by kernel_rfl⟩
def tb42 : XF := .mk 8 (.one 4) (.seq (g_ 1 [p_ 0 4 (.mv (.c (.bool false)))]) (.seq (g_ 4 [p_ 0 5 (m_ 0), p_ 1 6 (m_ 1), c_ 2 7 61 [(.t 5), (.t 6), (.f 62)], p_ 3 4 (m_ 7)]) .ret))
theorem tb42_g : tb_Good 42 tb42 := ⟨by kernel_rfl, by kernel_rfl⟩
def tb43 : XF := .mk 11 (.one 2) (.seq (g_ 2 [e_ 0 1 (.box 31 (.t 0)), p_ 1 2 (.mv (.c (.bool false)))]) (.seq (g_ 9 [p_ 0 3 (f_ 0 1), r_ 1 4 (l_ 3), p_ 2 5 (.bin 3 0 (.t 4) (.c (.int 1 (.ofNat 16)))), p_ 3 6 (m_ 5), pg_ 4 7 6 true (f_ 1 1), rg_ 5 8 6 true (l_ 7), pg_ 6 9 6 true (.bin 3 2 (.t 8) (.c (.int 2 (.ofNat 0)))), p_ 7 10 (.pick (.t 6) (.t 9) (.c (.bool false))), p_ 8 2 (m_ 10)]) .ret))
theorem tb43_g : tb_Good 43 tb43 := ⟨by kernel_rfl, by kernel_rfl⟩
def tb44 : XF := .mk 19 (.one 4) (.seq (g_ 2 [e_ 0 3 (.box 31 (.t 1)), p_ 1 4 (.mv (i_ 0))]) (.seq (.seq (g_ 3 [p_ 0 6 (m_ 0), p_ 1 7 (k_ 6), p_ 2 8 (.mv (i_ 0))]) (.block 2 (.loop [0, 3, 4, 5, 7, 8, 9, 10, 11, 12, 13, 14, 15, 16, 17, 18] (.seq (g_ 1 [p_ 0 9 (.bin 3 0 (.t 8) (.t 7))]) (.seq (.cond (.t 9) .skip (.exit 2)) (.seq (.block 3 (.seq (g_ 2 [p_ 0 10 (m_ 8), p_ 1 5 (m_ 10)]) (.seq (h_ 6 [r_ 0 11 (.ld true 2 (.t 3)), p_ 1 12 (m_ 0), p_ 2 13 (m_ 5), p_ 3 14 (.ixs 2 (.t 12) (.t 13)), r_ 4 15 (.ld true 2 (.t 14)), p_ 5 16 (.eqs false 2 (.st [(0, 1, false, .int), (1, 1, false, .int)]) (.t 11) (.t 15))]) (.cond (.t 16) (.seq (g_ 2 [p_ 0 17 (m_ 5), p_ 1 4 (m_ 17)]) .ret) .skip)))) (g_ 2 [p_ 0 18 (.bin 0 0 (.t 8) (i_ 1)), p_ 1 8 (m_ 18)]))))))) (.seq (g_ 1 [p_ 0 4 (.mv (.c (.int 0 (.negSucc 0))))]) .ret)))
theorem tb44_g : tb_Good 44 tb44 := ⟨by kernel_rfl, by kernel_rfl⟩
def tb45 : XF := .mk 8 (.one 2) (.seq (g_ 1 [p_ 0 2 (.mv (.c .nilS))]) (.seq (.seq (g_ 2 [p_ 0 3 (m_ 0), p_ 1 4 (.isn false 2 (.t 3))]) (.cond (.t 4) (.seq (g_ 1 [p_ 0 2 (.mv (.c .nilS))]) .ret) .skip)) (.seq (g_ 4 [e_ 0 5 (.bsl 31 2 0 [] [] []), p_ 1 6 (m_ 0), e_ 2 7 (.app 31 2 4 (.t 5) (.t 6)), p_ 3 2 (m_ 7)]) .ret)))
theorem tb45_g : tb_Good 45 tb45 := ⟨by kernel_rfl, by kernel_rfl⟩
def tb46 : XF := .mk 12 (.cell 2 true 2) (.seq (g_ 2 [e_ 0 1 (.box 27 (.t 0)), e_ 1 2 (.al 31 [(.int 1 (.ofNat 0)), (.int 2 (.ofNat 0))])]) (.seq (.seq (g_ 4 [p_ 0 3 (f_ 2 1), r_ 1 4 (l_ 3), p_ 2 5 (k_ 4), p_ 3 6 (.bin 3 4 (.t 5) (i_ 0))]) (.cond (.t 6) (.seq (g_ 2 [p_ 0 7 (.bld [(.int 1 (.ofNat 0)), (.int 2 (.ofNat 0))] [] []), e0_ 1 (.st 2 (.t 2) (.t 7))]) .ret) .skip)) (.seq (g_ 5 [p_ 0 8 (f_ 2 1), r_ 1 9 (l_ 8), p_ 2 10 (.ixs 2 (.t 9) (i_ 0)), r_ 3 11 (.ld true 2 (.t 10)), e0_ 4 (.st 2 (.t 2) (.t 11))]) .ret)))
theorem tb46_g : tb_Good 46 tb46 := ⟨by kernel_rfl, by kernel_rfl⟩
def tb51 : XF := .mk 18 (.one 2) (.seq (g_ 2 [e_ 0 1 (.box 45 (.t 0)), p_ 1 2 (.mv (.c (.bool false)))]) (.seq (g_ 16 [p_ 0 3 (f_ 11 1), r_ 1 4 (l_ 3), p_ 2 5 (.bin 3 4 (.t 4) (.c (.int 3 (.ofNat 0)))), p_ 3 6 (m_ 5), pg_ 4 7 6 true (f_ 12 1), rg_ 5 8 6 true (l_ 7), pg_ 6 9 6 true (k_ 8), pg_ 7 10 6 true (.bin 3 4 (.t 9) (i_ 0)), p_ 8 11 (.pick (.t 6) (.t 10) (.c (.bool false))), p_ 9 12 (m_ 11), pg_ 10 13 12 true (f_ 15 1), rg_ 11 14 12 true (l_ 13), pg_ 12 15 12 true (k_ 14), pg_ 13 16 12 true (.bin 3 4 (.t 15) (i_ 0)), p_ 14 17 (.pick (.t 12) (.t 16) (.c (.bool false))), p_ 15 2 (m_ 17)]) .ret))
theorem tb51_g : tb_Good 51 tb51 := ⟨by kernel_rfl, by kernel_rfl⟩
def tb52 : XF := .mk 8 (.one 2) (.seq (g_ 1 [p_ 0 2 (.mv (.c .nilS))]) (.seq (.seq (g_ 2 [p_ 0 3 (m_ 0), p_ 1 4 (.isn false 2 (.t 3))]) (.cond (.t 4) (.seq (g_ 1 [p_ 0 2 (.mv (.c .nilS))]) .ret) .skip)) (.seq (g_ 4 [e_ 0 5 (.bsl 109 5 0 [] [] []), p_ 1 6 (m_ 0), e_ 2 7 (.app 109 5 48 (.t 5) (.t 6)), p_ 3 2 (m_ 7)]) .ret)))
theorem tb52_g : tb_Good 52 tb52 := ⟨by kernel_rfl, by kernel_rfl⟩
def tb53 : XF := .mk 8 (.one 2) (.seq (g_ 1 [p_ 0 2 (.mv (.c .nilS))]) (.seq (.seq (g_ 2 [p_ 0 3 (m_ 0), p_ 1 4 (.isn false 2 (.t 3))]) (.cond (.t 4) (.seq (g_ 1 [p_ 0 2 (.mv (.c .nilS))]) .ret) .skip)) (.seq (g_ 4 [e_ 0 5 (.bsl 112 3 0 [] [] []), p_ 1 6 (m_ 0), e_ 2 7 (.app 112 3 40 (.t 5) (.t 6)), p_ 3 2 (m_ 7)]) .ret)))
theorem tb53_g : tb_Good 53 tb53 := ⟨by kernel_rfl, by kernel_rfl⟩
def tb54 : XF := .mk 11 .none (.seq (g_ 3 [p_ 0 3 (m_ 0), p_ 1 4 (k_ 3), p_ 2 2 (m_ 4)]) (g_ 6 [p_ 0 5 (m_ 0), p_ 1 6 (m_ 2), p_ 2 7 (m_ 2), p_ 3 8 (.cnv 4 (.t 7)), c_ 4 9 65 [.t 8], c_ 5 10 64 [(.t 5), (i_ 0), (.t 6), (.t 9)]]))
theorem tb54_g : tb_Good 54 tb54 := ⟨by kernel_rfl, by kernel_rfl⟩
def tb55 : XF := .mk 8 (.one 2) (.seq (g_ 2 [e_ 0 1 (.box 27 (.t 0)), p_ 1 2 (.mv (i_ 0))]) (.seq (g_ 6 [p_ 0 3 (f_ 2 1), r_ 1 4 (l_ 3), p_ 2 5 (k_ 4), p_ 3 6 (.bin 0 3 (.t 5) (i_ 2)), p_ 4 7 (.bin 0 0 (.t 6) (i_ 1)), p_ 5 2 (m_ 7)]) .ret))
theorem tb55_g : tb_Good 55 tb55 := ⟨by kernel_rfl, by kernel_rfl⟩
def tb64 : XF := .mk 134 .none (.seq (g_ 1 [p_ 0 8 (.mv (.c (.bool true)))]) (.seq (g_ 1 [p_ 0 9 (.mv (.c (.bool true)))]) (.block 2 (.loop [0, 1, 2, 3, 8, 9, 10, 11, 12, 13, 14, 15, 16, 17, 18, 19, 20, 21, 22, 23, 24, 25, 26, 28, 29, 30, 31, 32, 34, 35, 36, 37, 38, 40, 41, 42, 43, 44, 45, 46, 47, 48, 49, 50, 51, 52, 53, 55, 56, 57, 58, 59, 60, 61, 62, 63, 64, 65, 66, 67, 68, 69, 70, 71, 72, 73, 74, 75, 76, 77, 78, 79, 80, 81, 82, 83, 84, 85, 86, 87, 88, 89, 90, 91, 92, 93, 94, 95, 96, 97, 98, 99, 100, 101, 102, 103, 104, 105, 106, 107, 108, 109, 110, 111, 112, 113, 114, 115, 116, 117, 118, 119, 120, 122, 123, 124, 125, 126, 127, 128, 129, 130, 131, 133] (.block 3 (.seq (g_ 4 [p_ 0 19 (m_ 2), p_ 1 20 (m_ 1), p_ 2 21 (.bin 0 1 (.t 19) (.t 20)), p_ 3 10 (m_ 21)]) (.seq (.seq (g_ 2 [p_ 0 22 (m_ 10), p_ 1 23 (.bin 3 1 (.t 22) (i_ 12))]) (.cond (.t 23) (.seq (g_ 4 [p_ 0 24 (m_ 0), p_ 1 25 (m_ 1), p_ 2 26 (m_ 2), c_ 3 27 72 [(.t 24), (.t 25), (.t 26)]]) .ret) .skip)) (.seq (.seq (g_ 2 [p_ 0 28 (m_ 3), p_ 1 29 (.bin 3 4 (.t 28) (i_ 0))]) (.cond (.t 29) (.seq (g_ 4 [p_ 0 30 (m_ 0), p_ 1 31 (m_ 1), p_ 2 32 (m_ 2), c_ 3 33 73 [(.t 30), (.t 31), (.t 32)]]) .ret) .skip)) (.seq (.seq (g_ 2 [p_ 0 34 (m_ 8), p_ 1 35 (.un 0 (.t 34))]) (.cond (.t 35) (.seq (g_ 4 [p_ 0 36 (m_ 0), p_ 1 37 (m_ 1), p_ 2 38 (m_ 2), c_ 3 39 74 [(.t 36), (.t 37), (.t 38)]]) (g_ 3 [p_ 0 40 (m_ 3), p_ 1 41 (.bin 0 1 (.t 40) (i_ 1)), p_ 2 3 (m_ 41)])) .skip)) (.seq (g_ 9 [p_ 0 43 (m_ 0), p_ 1 44 (m_ 1), p_ 2 45 (m_ 2), c_ 3 46 75 [(.t 43), (.t 44), (.t 45)], p_ 4 42 (m_ 46), p_ 5 47 (.ext 0 (.t 42)), p_ 6 48 (.ext 1 (.t 42)), p_ 7 11 (m_ 47), p_ 8 12 (m_ 48)]) (.seq (.seq (g_ 2 [p_ 0 49 (m_ 12), p_ 1 50 (.bin 3 4 (.t 49) (i_ 2))]) (.cond (.t 50) (.seq (g_ 4 [p_ 0 51 (m_ 0), p_ 1 52 (m_ 1), p_ 2 53 (m_ 2), c_ 3 54 76 [(.t 51), (.t 52), (.t 53)]]) (.seq (g_ 7 [p_ 0 55 (m_ 2), p_ 1 56 (.bin 0 1 (.t 55) (i_ 1)), p_ 2 57 (m_ 11), p_ 3 58 (m_ 1), p_ 4 59 (.bin 0 1 (.t 57) (.t 58)), p_ 5 60 (.bin 0 1 (.t 56) (.t 59)), p_ 6 11 (m_ 60)]) (g_ 1 [p_ 0 12 (.mv (i_ 1))]))) .skip)) (.seq (.seq (g_ 8 [p_ 0 61 (m_ 8), p_ 1 62 (m_ 61), pg_ 2 63 62 true (m_ 9), p_ 3 64 (.pick (.t 62) (.t 63) (.c (.bool false))), p_ 4 65 (m_ 64), pg_ 5 66 65 true (m_ 12), pg_ 6 67 65 true (.bin 3 4 (.t 66) (i_ 1)), p_ 7 68 (.pick (.t 65) (.t 67) (.c (.bool false)))]) (.cond (.t 68) (.seq (g_ 4 [p_ 0 69 (m_ 0), p_ 1 70 (m_ 1), p_ 2 71 (m_ 2), c_ 3 72 77 [(.t 69), (.t 70), (.t 71)]]) (.cond (.t 72) .ret .skip)) .skip)) (.seq (.seq (h_ 15 [p_ 0 73 (m_ 1), p_ 1 74 (.bin 3 2 (.t 73) (i_ 0)), p_ 2 75 (m_ 74), pg_ 3 76 75 true (m_ 0), pg_ 4 77 75 true (m_ 1), pg_ 5 78 75 true (.bin 0 1 (.t 77) (i_ 1)), pg_ 6 79 75 true (.ixs 1 (.t 76) (.t 78)), rg_ 7 80 75 true (l_ 79), pg_ 8 81 75 true (m_ 0), pg_ 9 82 75 true (m_ 11), pg_ 10 83 75 true (.ixs 1 (.t 81) (.t 82)), rg_ 11 84 75 true (l_ 83), cg_ 12 85 75 true 78 [(.t 80), (.t 84)], pg_ 13 86 75 true (.un 0 (.t 85)), p_ 14 87 (.pick (.t 75) (.t 86) (.c (.bool false)))]) (.cond (.t 87) (.seq (g_ 6 [p_ 0 88 (m_ 0), p_ 1 89 (m_ 1), p_ 2 90 (m_ 2), p_ 3 91 (m_ 11), c_ 4 92 79 [(.t 88), (.t 89), (.t 90), (.t 91)], p_ 5 13 (m_ 92)]) (.seq (g_ 2 [p_ 0 93 (m_ 13), p_ 1 1 (m_ 93)]) (.exit 3))) .skip)) (.seq (g_ 10 [p_ 0 95 (m_ 0), p_ 1 96 (m_ 1), p_ 2 97 (m_ 2), p_ 3 98 (m_ 11), c_ 4 99 80 [(.t 95), (.t 96), (.t 97), (.t 98)], p_ 5 94 (m_ 99), p_ 6 100 (.ext 0 (.t 94)), p_ 7 101 (.ext 1 (.t 94)), p_ 8 14 (m_ 100), p_ 9 15 (m_ 101)]) (.seq (g_ 2 [p_ 0 102 (m_ 15), p_ 1 9 (m_ 102)]) (.seq (g_ 8 [p_ 0 103 (m_ 14), p_ 1 104 (m_ 1), p_ 2 105 (.bin 0 1 (.t 103) (.t 104)), p_ 3 106 (m_ 2), p_ 4 107 (m_ 14), p_ 5 108 (.bin 0 1 (.t 106) (.t 107)), p_ 6 16 (m_ 105), p_ 7 17 (m_ 108)]) (.seq (g_ 3 [p_ 0 109 (m_ 10), p_ 1 110 (.bin 0 3 (.t 109) (i_ 8)), p_ 2 18 (m_ 110)]) (.seq (g_ 3 [p_ 0 111 (m_ 16), p_ 1 112 (m_ 17), p_ 2 113 (.bin 3 0 (.t 111) (.t 112))]) (.cond (.t 113) (.seq (g_ 4 [p_ 0 114 (m_ 16), p_ 1 115 (m_ 18), p_ 2 116 (.bin 3 3 (.t 114) (.t 115)), p_ 3 8 (m_ 116)]) (.seq (g_ 5 [p_ 0 117 (m_ 0), p_ 1 118 (m_ 1), p_ 2 119 (m_ 14), p_ 3 120 (m_ 3), c_ 4 121 64 [(.t 117), (.t 118), (.t 119), (.t 120)]]) (g_ 3 [p_ 0 122 (m_ 14), p_ 1 123 (.bin 0 0 (.t 122) (i_ 1)), p_ 2 1 (m_ 123)]))) (.seq (g_ 4 [p_ 0 124 (m_ 17), p_ 1 125 (m_ 18), p_ 2 126 (.bin 3 3 (.t 124) (.t 125)), p_ 3 8 (m_ 126)]) (.seq (g_ 6 [p_ 0 127 (m_ 0), p_ 1 128 (m_ 14), p_ 2 129 (.bin 0 0 (.t 128) (i_ 1)), p_ 3 130 (m_ 2), p_ 4 131 (m_ 3), c_ 5 132 64 [(.t 127), (.t 129), (.t 130), (.t 131)]]) (g_ 2 [p_ 0 133 (m_ 14), p_ 1 2 (m_ 133)]))))))))))))))))))))))
theorem tb64_g : tb_Good 64 tb64 := ⟨by kernel_rfl, by kernel_rfl⟩
def tb65 : XF := .mk 8 (.one 2) (.seq (g_ 1 [p_ 0 2 (.mv (i_ 0))]) (.seq (.cond (.c (.bool false)) (.seq (g_ 4 [p_ 0 3 (m_ 0), p_ 1 4 (.cnv 3 (.t 3)), c_ 2 5 81 [.t 4], p_ 3 2 (m_ 5)]) .ret) .skip) (.seq (g_ 3 [p_ 0 6 (m_ 0), c_ 1 7 82 [.t 6], p_ 2 2 (m_ 7)]) .ret)))
theorem tb65_g : tb_Good 65 tb65 := ⟨by kernel_rfl, by kernel_rfl⟩
def tb67 : XF := .mk 8 (.one 4) (.seq (g_ 1 [p_ 0 4 (.mv (.c (.bool false)))]) (.seq (g_ 4 [p_ 0 5 (m_ 0), p_ 1 6 (m_ 1), c_ 2 7 83 [(.t 5), (.t 6)], p_ 3 4 (m_ 7)]) .ret))
theorem tb67_g : tb_Good 67 tb67 := ⟨by kernel_rfl, by kernel_rfl⟩
def tb68 : XF := .mk 26 (.one 4) (.seq (g_ 1 [p_ 0 4 (.mv (.c (.bool false)))]) (.seq (.seq (g_ 5 [p_ 0 6 (m_ 0), p_ 1 7 (k_ 6), p_ 2 8 (m_ 1), p_ 3 9 (k_ 8), p_ 4 10 (.bin 3 5 (.t 7) (.t 9))]) (.cond (.t 10) (.seq (g_ 1 [p_ 0 4 (.mv (.c (.bool false)))]) .ret) .skip)) (.seq (.seq (g_ 3 [p_ 0 11 (m_ 0), p_ 1 12 (k_ 11), p_ 2 13 (.mv (i_ 0))]) (.block 2 (.loop [0, 1, 4, 5, 12, 13, 14, 15, 16, 17, 18, 19, 20, 21, 22, 23, 24, 25] (.seq (g_ 1 [p_ 0 14 (.bin 3 0 (.t 13) (.t 12))]) (.seq (.cond (.t 14) .skip (.exit 2)) (.seq (.block 3 (.seq (g_ 2 [p_ 0 15 (m_ 13), p_ 1 5 (m_ 15)]) (.seq (h_ 9 [p_ 0 16 (m_ 0), p_ 1 17 (m_ 5), p_ 2 18 (.ixs 3 (.t 16) (.t 17)), r_ 3 19 (.ld true 3 (.t 18)), p_ 4 20 (m_ 1), p_ 5 21 (m_ 5), p_ 6 22 (.ixs 3 (.t 20) (.t 21)), r_ 7 23 (.ld true 3 (.t 22)), p_ 8 24 (.eqs true 2 (.st [(0, 1, false, .str), (1, 1, false, .str), (2, 1, false, .bool)]) (.t 19) (.t 23))]) (.cond (.t 24) (.seq (g_ 1 [p_ 0 4 (.mv (.c (.bool false)))]) .ret) .skip)))) (g_ 2 [p_ 0 25 (.bin 0 0 (.t 13) (i_ 1)), p_ 1 13 (m_ 25)]))))))) (.seq (g_ 1 [p_ 0 4 (.mv (.c (.bool true)))]) .ret))))
theorem tb68_g : tb_Good 68 tb68 := ⟨by kernel_rfl, by kernel_rfl⟩
def tb72 : XF := .mk 49 .none (.seq (g_ 3 [p_ 0 8 (m_ 1), p_ 1 9 (.bin 0 0 (.t 8) (i_ 1)), p_ 2 6 (m_ 9)]) (.block 2 (.loop [0, 1, 2, 6, 7, 10, 11, 12, 13, 14, 15, 16, 17, 18, 19, 20, 21, 22, 23, 24, 25, 26, 27, 28, 29, 30, 31, 32, 33, 34, 35, 36, 37, 38, 39, 40, 41, 42, 43, 44, 45, 46, 47, 48] (.seq (.seq (g_ 3 [p_ 0 10 (m_ 6), p_ 1 11 (m_ 2), p_ 2 12 (.bin 3 0 (.t 10) (.t 11))]) (.cond (.t 12) .skip (.exit 2))) (.seq (.block 3 (.seq (g_ 2 [p_ 0 15 (m_ 6), p_ 1 7 (m_ 15)]) (.block 4 (.loop [0, 1, 2, 6, 7, 10, 11, 12, 13, 14, 15, 16, 17, 18, 19, 20, 21, 22, 23, 24, 25, 26, 27, 28, 29, 30, 31, 32, 33, 34, 35, 36, 37, 38, 39, 40, 41, 42, 43, 44, 45, 46, 47, 48] (.seq (.seq (h_ 15 [p_ 0 16 (m_ 7), p_ 1 17 (m_ 1), p_ 2 18 (.bin 3 2 (.t 16) (.t 17)), p_ 3 19 (m_ 18), pg_ 4 20 19 true (m_ 0), pg_ 5 21 19 true (m_ 7), pg_ 6 22 19 true (.ixs 1 (.t 20) (.t 21)), rg_ 7 23 19 true (l_ 22), pg_ 8 24 19 true (m_ 0), pg_ 9 25 19 true (m_ 7), pg_ 10 26 19 true (.bin 0 1 (.t 25) (i_ 1)), pg_ 11 27 19 true (.ixs 1 (.t 24) (.t 26)), rg_ 12 28 19 true (l_ 27), cg_ 13 29 19 true 78 [(.t 23), (.t 28)], p_ 14 30 (.pick (.t 19) (.t 29) (.c (.bool false)))]) (.cond (.t 30) .skip (.exit 4))) (.seq (.block 5 (h_ 18 [p_ 0 33 (m_ 0), p_ 1 34 (m_ 7), p_ 2 35 (m_ 0), p_ 3 36 (m_ 7), p_ 4 37 (.bin 0 1 (.t 36) (i_ 1)), p_ 5 38 (m_ 0), p_ 6 39 (m_ 7), p_ 7 40 (.bin 0 1 (.t 39) (i_ 1)), p_ 8 41 (.ixs 1 (.t 38) (.t 40)), r_ 9 42 (l_ 41), p_ 10 43 (m_ 0), p_ 11 44 (m_ 7), p_ 12 45 (.ixs 1 (.t 43) (.t 44)), r_ 13 46 (l_ 45), p_ 14 47 (.ixs 1 (.t 33) (.t 34)), e0_ 15 (.st 1 (.t 47) (.t 42)), p_ 16 48 (.ixs 1 (.t 35) (.t 37)), e0_ 17 (.st 1 (.t 48) (.t 46))])) (g_ 3 [p_ 0 31 (m_ 7), p_ 1 32 (.bin 0 1 (.t 31) (i_ 1)), p_ 2 7 (m_ 32)]))))))) (g_ 3 [p_ 0 13 (m_ 6), p_ 1 14 (.bin 0 0 (.t 13) (i_ 1)), p_ 2 6 (m_ 14)]))))))
theorem tb72_g : tb_Good 72 tb72 := ⟨by kernel_rfl, by kernel_rfl⟩
def tb78 : XF := .mk 17 (.one 4) (.seq (g_ 1 [p_ 0 4 (.mv (.c (.bool false)))]) (.seq (g_ 13 [p_ 0 5 (m_ 0), c_ 1 6 91 [.t 5], p_ 2 7 (m_ 6), pg_ 3 8 7 true (m_ 1), cg_ 4 9 7 true 91 [.t 8], pg_ 5 10 7 true (.un 0 (.t 9)), p_ 6 11 (.pick (.t 7) (.t 10) (.c (.bool false))), p_ 7 12 (m_ 11), pg_ 8 13 12 false (m_ 0), pg_ 9 14 12 false (m_ 1), pg_ 10 15 12 false (.bin 3 0 (.t 13) (.t 14)), p_ 11 16 (.pick (.t 12) (.c (.bool true)) (.t 15)), p_ 12 4 (m_ 16)]) .ret))
theorem tb78_g : tb_Good 78 tb78 := ⟨by kernel_rfl, by kernel_rfl⟩
def tb82 : XF := .mk 25 (.one 2) (.seq (g_ 1 [p_ 0 2 (.mv (i_ 0))]) (.seq (.seq (g_ 2 [p_ 0 3 (m_ 0), p_ 1 4 (.bin 3 3 (.t 3) (.c (.int 4 (.ofNat 4294967296))))]) (.cond (.t 4) (.seq (g_ 3 [p_ 0 5 (m_ 0), p_ 1 6 (.bin 2 1 (.t 5) (.c (.int 4 (.ofNat 32)))), p_ 2 0 (m_ 6)]) (g_ 1 [p_ 0 2 (.mv (i_ 32))])) .skip)) (.seq (.seq (g_ 2 [p_ 0 7 (m_ 0), p_ 1 8 (.bin 3 3 (.t 7) (.c (.int 4 (.ofNat 65536))))]) (.cond (.t 8) (.seq (g_ 3 [p_ 0 9 (m_ 0), p_ 1 10 (.bin 2 1 (.t 9) (.c (.int 4 (.ofNat 16)))), p_ 2 0 (m_ 10)]) (g_ 3 [p_ 0 11 (m_ 2), p_ 1 12 (.bin 0 0 (.t 11) (i_ 16)), p_ 2 2 (m_ 12)])) .skip)) (.seq (.seq (g_ 2 [p_ 0 13 (m_ 0), p_ 1 14 (.bin 3 3 (.t 13) (.c (.int 4 (.ofNat 256))))]) (.cond (.t 14) (.seq (g_ 3 [p_ 0 15 (m_ 0), p_ 1 16 (.bin 2 1 (.t 15) (.c (.int 4 (.ofNat 8)))), p_ 2 0 (m_ 16)]) (g_ 3 [p_ 0 17 (m_ 2), p_ 1 18 (.bin 0 0 (.t 17) (i_ 8)), p_ 2 2 (m_ 18)])) .skip)) (.seq (g_ 7 [p_ 0 19 (m_ 2), p_ 1 20 (m_ 0), p_ 2 21 (.cnv 1 (.t 20)), p_ 3 22 (.six (.c (.str [0, 1, 2, 2, 3, 3, 3, 3, 4, 4, 4, 4, 4, 4, 4, 4, 5, 5, 5, 5, 5, 5, 5, 5, 5, 5, 5, 5, 5, 5, 5, 5, 6, 6, 6, 6, 6, 6, 6, 6, 6, 6, 6, 6, 6, 6, 6, 6, 6, 6, 6, 6, 6, 6, 6, 6, 6, 6, 6, 6, 6, 6, 6, 6, 7, 7, 7, 7, 7, 7, 7, 7, 7, 7, 7, 7, 7, 7, 7, 7, 7, 7, 7, 7, 7, 7, 7, 7, 7, 7, 7, 7, 7, 7, 7, 7, 7, 7, 7, 7, 7, 7, 7, 7, 7, 7, 7, 7, 7, 7, 7, 7, 7, 7, 7, 7, 7, 7, 7, 7, 7, 7, 7, 7, 7, 7, 7, 7, 8, 8, 8, 8, 8, 8, 8, 8, 8, 8, 8, 8, 8, 8, 8, 8, 8, 8, 8, 8, 8, 8, 8, 8, 8, 8, 8, 8, 8, 8, 8, 8, 8, 8, 8, 8, 8, 8, 8, 8, 8, 8, 8, 8, 8, 8, 8, 8, 8, 8, 8, 8, 8, 8, 8, 8, 8, 8, 8, 8, 8, 8, 8, 8, 8, 8, 8, 8, 8, 8, 8, 8, 8, 8, 8, 8, 8, 8, 8, 8, 8, 8, 8, 8, 8, 8, 8, 8, 8, 8, 8, 8, 8, 8, 8, 8, 8, 8, 8, 8, 8, 8, 8, 8, 8, 8, 8, 8, 8, 8, 8, 8, 8, 8, 8, 8, 8, 8, 8, 8, 8, 8, 8, 8, 8, 8, 8, 8])) (.t 21)), p_ 4 23 (.cnv 0 (.t 22)), p_ 5 24 (.bin 0 0 (.t 19) (.t 23)), p_ 6 2 (m_ 24)]) .ret)))))
theorem tb82_g : tb_Good 82 tb82 := ⟨by kernel_rfl, by kernel_rfl⟩
def tb83 : XF := .mk 26 (.one 4) (.seq (g_ 1 [p_ 0 4 (.mv (.c (.bool false)))]) (.seq (.seq (g_ 5 [p_ 0 6 (m_ 0), p_ 1 7 (k_ 6), p_ 2 8 (m_ 1), p_ 3 9 (k_ 8), p_ 4 10 (.bin 3 5 (.t 7) (.t 9))]) (.cond (.t 10) (.seq (g_ 1 [p_ 0 4 (.mv (.c (.bool false)))]) .ret) .skip)) (.seq (.seq (g_ 3 [p_ 0 11 (m_ 0), p_ 1 12 (k_ 11), p_ 2 13 (.mv (i_ 0))]) (.block 2 (.loop [0, 1, 4, 5, 12, 13, 14, 15, 16, 17, 18, 19, 20, 21, 22, 23, 24, 25] (.seq (g_ 1 [p_ 0 14 (.bin 3 0 (.t 13) (.t 12))]) (.seq (.cond (.t 14) .skip (.exit 2)) (.seq (.block 3 (.seq (g_ 2 [p_ 0 15 (m_ 13), p_ 1 5 (m_ 15)]) (.seq (h_ 9 [p_ 0 16 (m_ 0), p_ 1 17 (m_ 5), p_ 2 18 (.ixs 5 (.t 16) (.t 17)), r_ 3 19 (.ld true 5 (.t 18)), p_ 4 20 (m_ 1), p_ 5 21 (m_ 5), p_ 6 22 (.ixs 5 (.t 20) (.t 21)), r_ 7 23 (.ld true 5 (.t 22)), p_ 8 24 (.eqs true 2 (.st [(0, 1, false, .int), (1, 1, false, .int), (2, 1, false, .str), (3, 1, false, .str), (4, 1, false, .int)]) (.t 19) (.t 23))]) (.cond (.t 24) (.seq (g_ 1 [p_ 0 4 (.mv (.c (.bool false)))]) .ret) .skip)))) (g_ 2 [p_ 0 25 (.bin 0 0 (.t 13) (i_ 1)), p_ 1 13 (m_ 25)]))))))) (.seq (g_ 1 [p_ 0 4 (.mv (.c (.bool true)))]) .ret))))
theorem tb83_g : tb_Good 83 tb83 := ⟨by kernel_rfl, by kernel_rfl⟩
def tb91 : XF := .mk 6 (.one 2) (.seq (g_ 1 [p_ 0 2 (.mv (.c (.bool false)))]) (.seq (g_ 4 [p_ 0 3 (m_ 0), p_ 1 4 (m_ 0), p_ 2 5 (.bin 3 5 (.t 3) (.t 4)), p_ 3 2 (m_ 5)]) .ret))
theorem tb91_g : tb_Good 91 tb91 := ⟨by kernel_rfl, by kernel_rfl⟩
noncomputable def tb_tab (f : Nat) : Option XF := (Bool.rec (Bool.rec (Bool.rec (Bool.rec (Bool.rec (Bool.rec (Bool.rec none (some tb91) (Nat.beq f 91)) (Bool.rec none (some tb83) (Nat.beq f 83)) (Nat.blt f 91)) (Bool.rec none (some tb82) (Nat.beq f 82)) (Nat.blt f 83)) (Bool.rec (Bool.rec (Bool.rec none (some tb78) (Nat.beq f 78)) (Bool.rec none (some tb72) (Nat.beq f 72)) (Nat.blt f 78)) (Bool.rec none (some tb68) (Nat.beq f 68)) (Nat.blt f 72)) (Nat.blt f 82)) (Bool.rec (Bool.rec (Bool.rec (Bool.rec none (some tb67) (Nat.beq f 67)) (Bool.rec none (some tb65) (Nat.beq f 65)) (Nat.blt f 67)) (Bool.rec none (some tb64) (Nat.beq f 64)) (Nat.blt f 65)) (Bool.rec (Bool.rec none (some tb55) (Nat.beq f 55)) (Bool.rec none (some tb54) (Nat.beq f 54)) (Nat.blt f 55)) (Nat.blt f 64)) (Nat.blt f 68)) (Bool.rec (Bool.rec (Bool.rec (Bool.rec (Bool.rec none (some tb53) (Nat.beq f 53)) (Bool.rec none (some tb52) (Nat.beq f 52)) (Nat.blt f 53)) (Bool.rec none (some tb51) (Nat.beq f 51)) (Nat.blt f 52)) (Bool.rec (Bool.rec none (some tb46) (Nat.beq f 46)) (Bool.rec none (some tb45) (Nat.beq f 45)) (Nat.blt f 46)) (Nat.blt f 51)) (Bool.rec (Bool.rec (Bool.rec (Bool.rec none (some tb44) (Nat.beq f 44)) (Bool.rec none (some tb43) (Nat.beq f 43)) (Nat.blt f 44)) (Bool.rec none (some tb42) (Nat.beq f 42)) (Nat.blt f 43)) (Bool.rec (Bool.rec none (some tb38) (Nat.beq f 38)) (Bool.rec none (some tb37) (Nat.beq f 37)) (Nat.blt f 38)) (Nat.blt f 42)) (Nat.blt f 45)) (Nat.blt f 54)) (Bool.rec (Bool.rec (Bool.rec (Bool.rec (Bool.rec (Bool.rec none (some tb36) (Nat.beq f 36)) (Bool.rec none (some tb35) (Nat.beq f 35)) (Nat.blt f 36)) (Bool.rec none (some tb34) (Nat.beq f 34)) (Nat.blt f 35)) (Bool.rec (Bool.rec none (some tb33) (Nat.beq f 33)) (Bool.rec none (some tb32) (Nat.beq f 32)) (Nat.blt f 33)) (Nat.blt f 34)) (Bool.rec (Bool.rec (Bool.rec (Bool.rec none (some tb31) (Nat.beq f 31)) (Bool.rec none (some tb30) (Nat.beq f 30)) (Nat.blt f 31)) (Bool.rec none (some tb26) (Nat.beq f 26)) (Nat.blt f 30)) (Bool.rec (Bool.rec none (some tb24) (Nat.beq f 24)) (Bool.rec none (some tb23) (Nat.beq f 23)) (Nat.blt f 24)) (Nat.blt f 26)) (Nat.blt f 32)) (Bool.rec (Bool.rec (Bool.rec (Bool.rec (Bool.rec none (some tb19) (Nat.beq f 19)) (Bool.rec none (some tb18) (Nat.beq f 18)) (Nat.blt f 19)) (Bool.rec none (some tb15) (Nat.beq f 15)) (Nat.blt f 18)) (Bool.rec (Bool.rec none (some tb14) (Nat.beq f 14)) (Bool.rec none (some tb12) (Nat.beq f 12)) (Nat.blt f 14)) (Nat.blt f 15)) (Bool.rec (Bool.rec (Bool.rec (Bool.rec none (some tb11) (Nat.beq f 11)) (Bool.rec none (some tb10) (Nat.beq f 10)) (Nat.blt f 11)) (Bool.rec none (some tb9) (Nat.beq f 9)) (Nat.blt f 10)) (Bool.rec (Bool.rec none (some tb8) (Nat.beq f 8)) (Bool.rec none (some tb7) (Nat.beq f 7)) (Nat.blt f 8)) (Nat.blt f 9)) (Nat.blt f 12)) (Nat.blt f 23)) (Nat.blt f 37))
theorem tb_leaf {f n : Nat} {x y : XF} (hy : tb_Good n y) (h : (Bool.rec (motive := fun _ => Option XF) none (some y) (Nat.beq f n)) = some x) : tb_Good f x := by
 cases hb : Nat.beq f n with
 | false => rw [hb] at h; cases h
 | true => rw [hb] at h; cases h; rw [Nat.eq_of_beq_eq_true hb]; exact hy
theorem tb_node {f n : Nat} {a b : Option XF} {x : XF} (ha : a = some x → tb_Good f x) (hb : b = some x → tb_Good f x) (h : (Bool.rec (motive := fun _ => Option XF) a b (Nat.blt f n)) = some x) : tb_Good f x := by
 cases hc : Nat.blt f n with
 | false => rw [hc] at h; exact ha h
 | true => rw [hc] at h; exact hb h
theorem tb_all (f : Nat) (x : XF) (h : tb_tab f = some x) : chkF Try.prog f x = true ∧ plain (bodyOf x) = true := (tb_node (tb_node (tb_node (tb_node (tb_node (tb_node (tb_leaf tb91_g) (tb_leaf tb83_g)) (tb_leaf tb82_g)) (tb_node (tb_node (tb_leaf tb78_g) (tb_leaf tb72_g)) (tb_leaf tb68_g))) (tb_node (tb_node (tb_node (tb_leaf tb67_g) (tb_leaf tb65_g)) (tb_leaf tb64_g)) (tb_node (tb_leaf tb55_g) (tb_leaf tb54_g)))) (tb_node (tb_node (tb_node (tb_node (tb_leaf tb53_g) (tb_leaf tb52_g)) (tb_leaf tb51_g)) (tb_node (tb_leaf tb46_g) (tb_leaf tb45_g))) (tb_node (tb_node (tb_node (tb_leaf tb44_g) (tb_leaf tb43_g)) (tb_leaf tb42_g)) (tb_node (tb_leaf tb38_g) (tb_leaf tb37_g))))) (tb_node (tb_node (tb_node (tb_node (tb_node (tb_leaf tb36_g) (tb_leaf tb35_g)) (tb_leaf tb34_g)) (tb_node (tb_leaf tb33_g) (tb_leaf tb32_g))) (tb_node (tb_node (tb_node (tb_leaf tb31_g) (tb_leaf tb30_g)) (tb_leaf tb26_g)) (tb_node (tb_leaf tb24_g) (tb_leaf tb23_g)))) (tb_node (tb_node (tb_node (tb_node (tb_leaf tb19_g) (tb_leaf tb18_g)) (tb_leaf tb15_g)) (tb_node (tb_leaf tb14_g) (tb_leaf tb12_g))) (tb_node (tb_node (tb_node (tb_leaf tb11_g) (tb_leaf tb10_g)) (tb_leaf tb9_g)) (tb_node (tb_leaf tb8_g) (tb_leaf tb7_g)))))) h
theorem tb_mix : Try.prog.follows .mixedOrders = true := by kernel_rfl
end Go.Proofs.Try
namespace Go.Proofs.Try
open Go Go.RowKit Go.Sy
open Go.Eng hiding allB
set_option maxRecDepth 1000000
set_option linter.unusedVariables false
set_option maxHeartbeats 4000000
noncomputable def nEl (M : T) (i : Nat) : Nat := Option.casesOn (M.get i) 0 fun o => AObj.casesOn o (fun _ _ _ els => lenL els) (fun es _ => lenL es) (fun _ _ _ _ => 0) 0 (fun _ _ _ _ _ => 0)
theorem natE_no {P : Program} {f k : Nat} : NatE P f k (fun _ _ _ _ => false) := fun us xs E ρ G F M nx w K R _ _ _ h => by cases h
noncomputable def tstE (b : List AV → T → Bool) (sA sB : SpecE) : SpecE := fun us M nx K => Bool.rec (sB us M nx K) (sA us M nx K) (b us M)
noncomputable def elB (i m : Nat) (us : List AV) (M : T) : Bool := Nat.beq (nEl M i) m
theorem tstE_ok {P : Program} {f k : Nat} {sA sB : SpecE} {b : List AV → T → Bool} (hA : NatE P f k sA) (hB : NatE P f k sB) : NatE P f k (tstE b sA sB) := by
 intro us xs E ρ G F M nx w K R h1 h2 h3 h4
 have h4 : (Bool.rec (motive := fun _ => Bool) (sB us M nx K) (sA us M nx K) (b us M) : Bool) = true := h4
 cases hb : b us M with
 | true => rw [hb] at h4; exact hA us xs E ρ G F M nx w K R h1 h2 h3 h4
 | false => rw [hb] at h4; exact hB us xs E ρ G F M nx w K R h1 h2 h3 h4
abbrev KE := AV → T → Nat → Bool
abbrev IE := List AV × T × Nat
abbrev IL := SL × T × Nat
noncomputable def esOf {α : Type} (I : α → IE) (sp : α → KE → Bool) : SpecE := fun us M nx K => exB fun p : α => must (prB ((us, M, nx) = I p)) (sp p K)
theorem natE_said {P : Program} (hm : P.follows .mixedOrders = true) {cf : CallF} (hcf : CallOk P cf) {lp : LpF} {lf f k : Nat} {xf : XF} {α : Type} {I : α → IE} {sp : α → KE → Bool} (hf : chkF P f xf = true) (hkp : keepB k (bodyOf xf) = true) (hlp : ∀ b j x, (b, j, x) ∈ lpsOf (bodyOf xf) → LpOk P (nOf xf) k lp b j x)
  (h : ∀ p K, sp p K = true → funE k cf lp lf xf (I p).1 (I p).2.1 (I p).2.2 K = true) : NatE P f k (esOf I sp) :=
 natE_of hm hcf hf hkp hlp fun us M nx K hk => by
  obtain ⟨p, h1⟩ := exB_ok hk
  obtain ⟨e, h2⟩ := mustP_ok h1
  have h3 := h p K h2
  rw [← e] at h3
  exact h3
noncomputable def spP {α : Type} (pre : α → Prop) (out : α → KE → Bool) (p : α) (K : KE) : Bool := must (prB (pre p)) (out p K)
noncomputable def natC (prev : Nat → List AV → Option ES) (k : Nat) (es : SpecE) (g : Nat) (l : List (Nat × Nat)) (f : Nat) (vs : List AV) : Option ES := Bool.rec (prev f vs) (some (.mk k es)) (hasS f g vs l)
def NatsOk (P : Program) (nat : Nat → List AV → Option ES) : Prop := ∀ f vs k sp, nat f vs = some (.mk k sp) → NatE P f k sp
theorem natC_ok {P : Program} {prev : Nat → List AV → Option ES} {k g : Nat} {es : SpecE} {l : List (Nat × Nat)} (h1 : NatE P g k es) (h2 : NatsOk P prev) : NatsOk P (natC prev k es g l) := fun f vs k' sp h => nat_step h1 (h2 f vs k' sp) h
noncomputable def nat0 : Nat → List AV → Option ES := fun _ _ => none
theorem nat0_ok {P : Program} : NatsOk P nat0 := fun _ _ _ _ h => by cases h
noncomputable def noLp : LpF := fun _ _ _ _ _ => false
theorem rows4 {a b c d a' b' c' d' : PL} (h1 : PLr a a') (h2 : PLr b b') (h3 : PLr c c') (h4 : PLr d d') : rowsR [[a, b, c, d]] [[a', b', c', d']] := ⟨⟨h1, h2, h3, h4, trivial⟩, trivial⟩
noncomputable def mP (p : Prop) (b : Bool) : Bool := must (prB p) b
noncomputable def iP (p : Prop) (x y : Bool) : Bool := ifB (prB p) x y
theorem mI {p : Prop} {b : Bool} (h : p) (k : b = true) : mP p b = true := mustP h k
theorem iI {p : Prop} {x y : Bool} (h : p → x = true) (k : ¬ p → y = true) : iP p x y = true := ifP h k
noncomputable def useC {α β R : Type _} (s : β) (I : α → β) (pre : α → Prop) (po : α → R → Prop) (k : α → R → Bool) : Bool := exB fun p => mP (s = I p) (mP (pre p) (allB fun r => iP (po p r) (k p r) true))
theorem callPR {α β R : Type _} {s : β} {I : α → β} {pre : α → Prop} {po : α → R → Prop} {k : α → R → Bool} (w : α) (h1 : s = I w) (h2 : pre w) (h3 : ∀ r, po w r → k w r = true) : useC s I pre po k = true :=
 exB_mk w (mustP h1 (mustP h2 (allB_mk fun r => ifP (h3 r) fun _ => rfl)))
theorem callR {α R : Type} {e : α → Prop} {po : α → R → Prop} {k : α → R → Bool} (w : α) (h1 : e w) (h3 : ∀ r, po w r → k w r = true) : (exB fun p => mP (e p) (allB fun r => iP (po p r) (k p r) true)) = true :=
 exB_mk w (mustP h1 (allB_mk fun r => ifP (h3 r) fun _ => rfl))
theorem callP {α : Type} {e pre : α → Prop} {k : α → Bool} (w : α) (h1 : e w) (h2 : pre w) (h3 : k w = true) : (exB fun p => mP (e p) (mP (pre p) (k p))) = true := exB_mk w (mustP h1 (mustP h2 h3))
noncomputable abbrev cfT (nat : Nat → List AV → Option ES) : CallF := callX tb_tab nat noLp 600 40
theorem cfT_ok {nat : Nat → List AV → Option ES} (h : NatsOk Try.prog nat) : CallOk Try.prog (cfT nat) := callX_ok (lp := noLp) (lf := 600) tb_mix tb_all h 40
theorem natE_pl {nat : Nat → List AV → Option ES} (hcf : CallOk Try.prog (cfT nat)) {f k : Nat} {xf : XF} {α : Type} {I : α → IE} {pre : α → Prop} {out : α → KE → Bool} (hf : chkF Try.prog f xf = true) (hkp : keepB k (bodyOf xf) = true) (hlp : lpsOf (bodyOf xf) = [])
  (h : ∀ p K, pre p → out p K = true → funE k (cfT nat) noLp 600 xf (I p).1 (I p).2.1 (I p).2.2 K = true) : NatE Try.prog f k (esOf I (spP pre out)) :=
 natE_said (lp := noLp) (lf := 600) tb_mix hcf hf hkp (fun b j x h => by rw [hlp] at h; cases h) fun p K hk => h p K (mustP_ok hk).1 (mustP_ok hk).2
theorem natE_pn {nat : Nat → List AV → Option ES} (hcf : CallOk Try.prog (cfT nat)) {f k : Nat} {xf : XF} {α : Type} {I : α → IE} {out : α → KE → Bool} (hf : chkF Try.prog f xf = true) (hkp : keepB k (bodyOf xf) = true) (hlp : lpsOf (bodyOf xf) = [])
  (h : ∀ p K, out p K = true → funE k (cfT nat) noLp 600 xf (I p).1 (I p).2.1 (I p).2.2 K = true) : NatE Try.prog f k (esOf I out) :=
 natE_said (lp := noLp) (lf := 600) tb_mix hcf hf hkp (fun b j x h => by rw [hlp] at h; cases h) h
def ft_less : XF := .mk 17 (.one 4) (.seq (g_ 1 [p_ 0 4 (.mv (.c (.bool false)))]) (.seq (g_ 13 [p_ 0 5 (m_ 0), c_ 1 6 91 [.t 5], p_ 2 7 (m_ 6), pg_ 3 8 7 true (m_ 1), cg_ 4 9 7 true 91 [.t 8], pg_ 5 10 7 true (.un 0 (.t 9)), p_ 6 11 (.pick (.t 7) (.t 10) (.c (.bool false))), p_ 7 12 (m_ 11), pg_ 8 13 12 false (m_ 0), pg_ 9 14 12 false (m_ 1), pg_ 10 15 12 false (.bin 3 0 (.t 13) (.t 14)), p_ 11 16 (.pick (.t 12) (.c (.bool true)) (.t 15)), p_ 12 4 (m_ 16)]) .ret))
theorem ft_less_ok : chkF Try.prog 78 ft_less = true := by kernel_rfl
structure A_less where
 x : Int
 y : Int
noncomputable def I_less (p : A_less) : IE := ([.sy (.int 0 p.x), .sy (.int 0 p.y)], .leaf, 0)
noncomputable def out_less (p : A_less) (K : KE) : Bool := K (.sy (.bool (p.x < p.y))) .leaf 0
theorem vf_less (p : A_less) (K : KE) (hK : out_less p K = true) : (funE 0 (cfT nat0) noLp 600 ft_less (I_less p).1 (I_less p).2.1 (I_less p).2.2 K) = true := by
 refine Eq.trans (b := (iP (¬ p.x = p.x) (iP (¬ (¬ p.y = p.y)) (K (.bool true) .leaf 0) (K (.sy (.bool (p.x < p.y))) .leaf 0)) (K (.sy (.bool (p.x < p.y))) .leaf 0))) (by kernel_rfl) ?_
 refine iI (fun hc1 => ?_) (fun hc1 => ?_)
 refine iI (fun hc2 => ?_) (fun hc2 => ?_)
 exfalso; omega
 exact hK
 exact hK
noncomputable def nat_less := natC nat0 0 (esOf I_less out_less) 78 [(0, 20), (1, 20)]
theorem nat_less_ok : NatsOk Try.prog nat_less := natC_ok (natE_pn (f := 78) (k := 0) (cfT_ok nat0_ok) ft_less_ok (by rfl) (by rfl) vf_less) nat0_ok
def encK (x : Int) : List PL := [.int 1 (.ofNat 2), .int 1 (.ofNat 0), .int 2 (.ofNat 0), .int 3 (.ofNat 0), .int 1 (.ofNat 0), .int 1 (.ofNat 0), .int 1 (.ofNat 0), .int 1 (.ofNat 0), .int 1 (.ofNat 0), .int 1 (.ofNat 0), .int 1 (.ofNat 0), .int 3 (.ofNat 0), .nilS, .int 1 (.ofNat 0), .str [], .nilS, .sint 1 x, .int 2 (.ofNat 1)]
noncomputable def Ro1 (l : List Int) (com : Int) (sh : Prop) (c0 : Int) (k0 : Nat) : T := (.node (.node (.node .leaf (some (.map [(.agg [.int 1 (.ofNat 0), .int 2 (.ofNat 1)], .sy (.int 0 c0), 0)] 1)) .leaf) (some (.blk true 31 2 [[.int 1 (.ofNat 0), .int 2 (.ofNat 1)]])) .leaf) (some (.blk false 67 10 [[.int 1 (.ofNat 0), .int 3 (.ofNat 1), .sl 1 0 1 (.rest 0), .int 1 (.ofNat 0), .int 2 (.ofNat 1), .sy (.prow 2 k0), .int 0 (.ofNat 0), .sy (.int 0 com), .sy (.bool sh), .map 3]])) (.node .leaf (some (.prow 45 18 Int l encK)) .leaf))
noncomputable def Ro1n (l : List Int) (com : Int) (sh : Prop) (c0 : Int) : T := Ro1 l com sh c0 l.length
noncomputable def Rs1 (l : List Int) (com : Int) (sh : Prop) (c0 : Int) (v0 : Int) (k0 : Nat) : T := (.node (.node (.node .leaf (some (.prow 45 18 Int l encK)) .leaf) (some (.blk false 3 1 [[.sy (.int 0 v0)]])) .leaf) (some (.blk false 67 10 [[.int 1 (.ofNat 0), .int 3 (.ofNat 1), .sl 2 0 1 (.rest 0), .int 1 (.ofNat 0), .int 2 (.ofNat 1), .sy (.prow 3 k0), .int 0 (.ofNat 0), .sy (.int 0 com), .sy (.bool sh), .map 4]])) (.node (.node .leaf (some (.map [(.agg [.int 1 (.ofNat 0), .int 2 (.ofNat 1)], .sy (.int 0 c0), 0)] 1)) .leaf) (some (.blk true 31 2 [[.int 1 (.ofNat 0), .int 2 (.ofNat 1)]])) .leaf))
noncomputable def Rs1n (l : List Int) (com : Int) (sh : Prop) (c0 : Int) (v0 : Int) : T := Rs1 l com sh c0 v0 l.length
noncomputable def Ro2 (l : List Int) (com : Int) (sh : Prop) (c0 : Int) (c1 : Int) (k0 : Nat) : T := (.node (.node (.node .leaf (some (.map [(.agg [.int 1 (.ofNat 0), .int 2 (.ofNat 1)], .sy (.int 0 c0), 0), (.agg [.int 1 (.ofNat 1), .int 2 (.ofNat 1)], .sy (.int 0 c1), 1)] 2)) .leaf) (some (.blk true 31 2 [[.int 1 (.ofNat 0), .int 2 (.ofNat 1)], [.int 1 (.ofNat 1), .int 2 (.ofNat 1)]])) .leaf) (some (.blk false 67 10 [[.int 1 (.ofNat 0), .int 3 (.ofNat 1), .sl 1 0 2 (.rest 0), .int 1 (.ofNat 0), .int 2 (.ofNat 1), .sy (.prow 2 k0), .int 0 (.ofNat 0), .sy (.int 0 com), .sy (.bool sh), .map 3]])) (.node .leaf (some (.prow 45 18 Int l encK)) .leaf))
noncomputable def Ro2n (l : List Int) (com : Int) (sh : Prop) (c0 : Int) (c1 : Int) : T := Ro2 l com sh c0 c1 l.length
noncomputable def Rm2 (l : List Int) (com : Int) (sh : Prop) (c0 : Int) (c1 : Int) (me : Int) (k0 : Nat) : T := (.node (.node (.node .leaf (some (.map [(.agg [.int 1 (.ofNat 0), .int 2 (.ofNat 1)], .sy (.int 0 c0), 0), (.agg [.int 1 (.ofNat 1), .int 2 (.ofNat 1)], .sy (.int 0 c1), 1)] 2)) .leaf) (some (.blk true 31 2 [[.int 1 (.ofNat 0), .int 2 (.ofNat 1)], [.int 1 (.ofNat 1), .int 2 (.ofNat 1)]])) .leaf) (some (.blk false 67 10 [[.int 1 (.ofNat 0), .int 3 (.ofNat 1), .sl 1 0 2 (.rest 0), .sy (.int 1 me), .int 2 (.ofNat 1), .sy (.prow 2 k0), .int 0 (.ofNat 0), .sy (.int 0 com), .sy (.bool sh), .map 3]])) (.node .leaf (some (.prow 45 18 Int l encK)) .leaf))
noncomputable def Rm2n (l : List Int) (com : Int) (sh : Prop) (c0 : Int) (c1 : Int) (me : Int) : T := Rm2 l com sh c0 c1 me l.length
noncomputable def Rs2 (l : List Int) (com : Int) (sh : Prop) (c0 : Int) (c1 : Int) (v0 : Int) (v1 : Int) (k0 : Nat) : T := (.node (.node (.node .leaf (some (.prow 45 18 Int l encK)) .leaf) (some (.blk false 3 1 [[.sy (.int 0 v0)], [.sy (.int 0 v1)]])) .leaf) (some (.blk false 67 10 [[.int 1 (.ofNat 0), .int 3 (.ofNat 1), .sl 2 0 2 (.rest 0), .int 1 (.ofNat 0), .int 2 (.ofNat 1), .sy (.prow 3 k0), .int 0 (.ofNat 0), .sy (.int 0 com), .sy (.bool sh), .map 4]])) (.node (.node .leaf (some (.map [(.agg [.int 1 (.ofNat 0), .int 2 (.ofNat 1)], .sy (.int 0 c0), 0), (.agg [.int 1 (.ofNat 1), .int 2 (.ofNat 1)], .sy (.int 0 c1), 1)] 2)) .leaf) (some (.blk true 31 2 [[.int 1 (.ofNat 0), .int 2 (.ofNat 1)], [.int 1 (.ofNat 1), .int 2 (.ofNat 1)]])) .leaf))
noncomputable def Rs2n (l : List Int) (com : Int) (sh : Prop) (c0 : Int) (c1 : Int) (v0 : Int) (v1 : Int) : T := Rs2 l com sh c0 c1 v0 v1 l.length
noncomputable def Ro3 (l : List Int) (com : Int) (sh : Prop) (c0 : Int) (c1 : Int) (c2 : Int) (k0 : Nat) : T := (.node (.node (.node .leaf (some (.map [(.agg [.int 1 (.ofNat 0), .int 2 (.ofNat 1)], .sy (.int 0 c0), 0), (.agg [.int 1 (.ofNat 1), .int 2 (.ofNat 1)], .sy (.int 0 c1), 1), (.agg [.int 1 (.ofNat 2), .int 2 (.ofNat 1)], .sy (.int 0 c2), 2)] 3)) .leaf) (some (.blk true 31 2 [[.int 1 (.ofNat 0), .int 2 (.ofNat 1)], [.int 1 (.ofNat 1), .int 2 (.ofNat 1)], [.int 1 (.ofNat 2), .int 2 (.ofNat 1)]])) .leaf) (some (.blk false 67 10 [[.int 1 (.ofNat 0), .int 3 (.ofNat 1), .sl 1 0 3 (.rest 0), .int 1 (.ofNat 0), .int 2 (.ofNat 1), .sy (.prow 2 k0), .int 0 (.ofNat 0), .sy (.int 0 com), .sy (.bool sh), .map 3]])) (.node .leaf (some (.prow 45 18 Int l encK)) .leaf))
noncomputable def Ro3n (l : List Int) (com : Int) (sh : Prop) (c0 : Int) (c1 : Int) (c2 : Int) : T := Ro3 l com sh c0 c1 c2 l.length
noncomputable def Rm3 (l : List Int) (com : Int) (sh : Prop) (c0 : Int) (c1 : Int) (c2 : Int) (me : Int) (k0 : Nat) : T := (.node (.node (.node .leaf (some (.map [(.agg [.int 1 (.ofNat 0), .int 2 (.ofNat 1)], .sy (.int 0 c0), 0), (.agg [.int 1 (.ofNat 1), .int 2 (.ofNat 1)], .sy (.int 0 c1), 1), (.agg [.int 1 (.ofNat 2), .int 2 (.ofNat 1)], .sy (.int 0 c2), 2)] 3)) .leaf) (some (.blk true 31 2 [[.int 1 (.ofNat 0), .int 2 (.ofNat 1)], [.int 1 (.ofNat 1), .int 2 (.ofNat 1)], [.int 1 (.ofNat 2), .int 2 (.ofNat 1)]])) .leaf) (some (.blk false 67 10 [[.int 1 (.ofNat 0), .int 3 (.ofNat 1), .sl 1 0 3 (.rest 0), .sy (.int 1 me), .int 2 (.ofNat 1), .sy (.prow 2 k0), .int 0 (.ofNat 0), .sy (.int 0 com), .sy (.bool sh), .map 3]])) (.node .leaf (some (.prow 45 18 Int l encK)) .leaf))
noncomputable def Rm3n (l : List Int) (com : Int) (sh : Prop) (c0 : Int) (c1 : Int) (c2 : Int) (me : Int) : T := Rm3 l com sh c0 c1 c2 me l.length
noncomputable def Rs3 (l : List Int) (com : Int) (sh : Prop) (c0 : Int) (c1 : Int) (c2 : Int) (v0 : Int) (v1 : Int) (v2 : Int) (k0 : Nat) : T := (.node (.node (.node .leaf (some (.prow 45 18 Int l encK)) .leaf) (some (.blk false 3 1 [[.sy (.int 0 v0)], [.sy (.int 0 v1)], [.sy (.int 0 v2)]])) .leaf) (some (.blk false 67 10 [[.int 1 (.ofNat 0), .int 3 (.ofNat 1), .sl 2 0 3 (.rest 0), .int 1 (.ofNat 0), .int 2 (.ofNat 1), .sy (.prow 3 k0), .int 0 (.ofNat 0), .sy (.int 0 com), .sy (.bool sh), .map 4]])) (.node (.node .leaf (some (.map [(.agg [.int 1 (.ofNat 0), .int 2 (.ofNat 1)], .sy (.int 0 c0), 0), (.agg [.int 1 (.ofNat 1), .int 2 (.ofNat 1)], .sy (.int 0 c1), 1), (.agg [.int 1 (.ofNat 2), .int 2 (.ofNat 1)], .sy (.int 0 c2), 2)] 3)) .leaf) (some (.blk true 31 2 [[.int 1 (.ofNat 0), .int 2 (.ofNat 1)], [.int 1 (.ofNat 1), .int 2 (.ofNat 1)], [.int 1 (.ofNat 2), .int 2 (.ofNat 1)]])) .leaf))
noncomputable def Rs3n (l : List Int) (com : Int) (sh : Prop) (c0 : Int) (c1 : Int) (c2 : Int) (v0 : Int) (v1 : Int) (v2 : Int) : T := Rs3 l com sh c0 c1 c2 v0 v1 v2 l.length
noncomputable def Ro4 (l : List Int) (com : Int) (sh : Prop) (c0 : Int) (c1 : Int) (c2 : Int) (c3 : Int) (k0 : Nat) : T := (.node (.node (.node .leaf (some (.map [(.agg [.int 1 (.ofNat 0), .int 2 (.ofNat 1)], .sy (.int 0 c0), 0), (.agg [.int 1 (.ofNat 1), .int 2 (.ofNat 1)], .sy (.int 0 c1), 1), (.agg [.int 1 (.ofNat 2), .int 2 (.ofNat 1)], .sy (.int 0 c2), 2), (.agg [.int 1 (.ofNat 3), .int 2 (.ofNat 1)], .sy (.int 0 c3), 3)] 4)) .leaf) (some (.blk true 31 2 [[.int 1 (.ofNat 0), .int 2 (.ofNat 1)], [.int 1 (.ofNat 1), .int 2 (.ofNat 1)], [.int 1 (.ofNat 2), .int 2 (.ofNat 1)], [.int 1 (.ofNat 3), .int 2 (.ofNat 1)]])) .leaf) (some (.blk false 67 10 [[.int 1 (.ofNat 0), .int 3 (.ofNat 1), .sl 1 0 4 (.rest 0), .int 1 (.ofNat 0), .int 2 (.ofNat 1), .sy (.prow 2 k0), .int 0 (.ofNat 0), .sy (.int 0 com), .sy (.bool sh), .map 3]])) (.node .leaf (some (.prow 45 18 Int l encK)) .leaf))
noncomputable def Ro4n (l : List Int) (com : Int) (sh : Prop) (c0 : Int) (c1 : Int) (c2 : Int) (c3 : Int) : T := Ro4 l com sh c0 c1 c2 c3 l.length
noncomputable def Rm4 (l : List Int) (com : Int) (sh : Prop) (c0 : Int) (c1 : Int) (c2 : Int) (c3 : Int) (me : Int) (k0 : Nat) : T := (.node (.node (.node .leaf (some (.map [(.agg [.int 1 (.ofNat 0), .int 2 (.ofNat 1)], .sy (.int 0 c0), 0), (.agg [.int 1 (.ofNat 1), .int 2 (.ofNat 1)], .sy (.int 0 c1), 1), (.agg [.int 1 (.ofNat 2), .int 2 (.ofNat 1)], .sy (.int 0 c2), 2), (.agg [.int 1 (.ofNat 3), .int 2 (.ofNat 1)], .sy (.int 0 c3), 3)] 4)) .leaf) (some (.blk true 31 2 [[.int 1 (.ofNat 0), .int 2 (.ofNat 1)], [.int 1 (.ofNat 1), .int 2 (.ofNat 1)], [.int 1 (.ofNat 2), .int 2 (.ofNat 1)], [.int 1 (.ofNat 3), .int 2 (.ofNat 1)]])) .leaf) (some (.blk false 67 10 [[.int 1 (.ofNat 0), .int 3 (.ofNat 1), .sl 1 0 4 (.rest 0), .sy (.int 1 me), .int 2 (.ofNat 1), .sy (.prow 2 k0), .int 0 (.ofNat 0), .sy (.int 0 com), .sy (.bool sh), .map 3]])) (.node .leaf (some (.prow 45 18 Int l encK)) .leaf))
noncomputable def Rm4n (l : List Int) (com : Int) (sh : Prop) (c0 : Int) (c1 : Int) (c2 : Int) (c3 : Int) (me : Int) : T := Rm4 l com sh c0 c1 c2 c3 me l.length
noncomputable def Rs4 (l : List Int) (com : Int) (sh : Prop) (c0 : Int) (c1 : Int) (c2 : Int) (c3 : Int) (v0 : Int) (v1 : Int) (v2 : Int) (v3 : Int) (k0 : Nat) : T := (.node (.node (.node .leaf (some (.prow 45 18 Int l encK)) .leaf) (some (.blk false 3 1 [[.sy (.int 0 v0)], [.sy (.int 0 v1)], [.sy (.int 0 v2)], [.sy (.int 0 v3)]])) .leaf) (some (.blk false 67 10 [[.int 1 (.ofNat 0), .int 3 (.ofNat 1), .sl 2 0 4 (.rest 0), .int 1 (.ofNat 0), .int 2 (.ofNat 1), .sy (.prow 3 k0), .int 0 (.ofNat 0), .sy (.int 0 com), .sy (.bool sh), .map 4]])) (.node (.node .leaf (some (.map [(.agg [.int 1 (.ofNat 0), .int 2 (.ofNat 1)], .sy (.int 0 c0), 0), (.agg [.int 1 (.ofNat 1), .int 2 (.ofNat 1)], .sy (.int 0 c1), 1), (.agg [.int 1 (.ofNat 2), .int 2 (.ofNat 1)], .sy (.int 0 c2), 2), (.agg [.int 1 (.ofNat 3), .int 2 (.ofNat 1)], .sy (.int 0 c3), 3)] 4)) .leaf) (some (.blk true 31 2 [[.int 1 (.ofNat 0), .int 2 (.ofNat 1)], [.int 1 (.ofNat 1), .int 2 (.ofNat 1)], [.int 1 (.ofNat 2), .int 2 (.ofNat 1)], [.int 1 (.ofNat 3), .int 2 (.ofNat 1)]])) .leaf))
noncomputable def Rs4n (l : List Int) (com : Int) (sh : Prop) (c0 : Int) (c1 : Int) (c2 : Int) (c3 : Int) (v0 : Int) (v1 : Int) (v2 : Int) (v3 : Int) : T := Rs4 l com sh c0 c1 c2 c3 v0 v1 v2 v3 l.length
noncomputable def Ro5 (l : List Int) (com : Int) (sh : Prop) (c0 : Int) (c1 : Int) (c2 : Int) (c3 : Int) (c4 : Int) (k0 : Nat) : T := (.node (.node (.node .leaf (some (.map [(.agg [.int 1 (.ofNat 0), .int 2 (.ofNat 1)], .sy (.int 0 c0), 0), (.agg [.int 1 (.ofNat 1), .int 2 (.ofNat 1)], .sy (.int 0 c1), 1), (.agg [.int 1 (.ofNat 2), .int 2 (.ofNat 1)], .sy (.int 0 c2), 2), (.agg [.int 1 (.ofNat 3), .int 2 (.ofNat 1)], .sy (.int 0 c3), 3), (.agg [.int 1 (.ofNat 4), .int 2 (.ofNat 1)], .sy (.int 0 c4), 4)] 5)) .leaf) (some (.blk true 31 2 [[.int 1 (.ofNat 0), .int 2 (.ofNat 1)], [.int 1 (.ofNat 1), .int 2 (.ofNat 1)], [.int 1 (.ofNat 2), .int 2 (.ofNat 1)], [.int 1 (.ofNat 3), .int 2 (.ofNat 1)], [.int 1 (.ofNat 4), .int 2 (.ofNat 1)]])) .leaf) (some (.blk false 67 10 [[.int 1 (.ofNat 0), .int 3 (.ofNat 1), .sl 1 0 5 (.rest 0), .int 1 (.ofNat 0), .int 2 (.ofNat 1), .sy (.prow 2 k0), .int 0 (.ofNat 0), .sy (.int 0 com), .sy (.bool sh), .map 3]])) (.node .leaf (some (.prow 45 18 Int l encK)) .leaf))
noncomputable def Ro5n (l : List Int) (com : Int) (sh : Prop) (c0 : Int) (c1 : Int) (c2 : Int) (c3 : Int) (c4 : Int) : T := Ro5 l com sh c0 c1 c2 c3 c4 l.length
noncomputable def Rm5 (l : List Int) (com : Int) (sh : Prop) (c0 : Int) (c1 : Int) (c2 : Int) (c3 : Int) (c4 : Int) (me : Int) (k0 : Nat) : T := (.node (.node (.node .leaf (some (.map [(.agg [.int 1 (.ofNat 0), .int 2 (.ofNat 1)], .sy (.int 0 c0), 0), (.agg [.int 1 (.ofNat 1), .int 2 (.ofNat 1)], .sy (.int 0 c1), 1), (.agg [.int 1 (.ofNat 2), .int 2 (.ofNat 1)], .sy (.int 0 c2), 2), (.agg [.int 1 (.ofNat 3), .int 2 (.ofNat 1)], .sy (.int 0 c3), 3), (.agg [.int 1 (.ofNat 4), .int 2 (.ofNat 1)], .sy (.int 0 c4), 4)] 5)) .leaf) (some (.blk true 31 2 [[.int 1 (.ofNat 0), .int 2 (.ofNat 1)], [.int 1 (.ofNat 1), .int 2 (.ofNat 1)], [.int 1 (.ofNat 2), .int 2 (.ofNat 1)], [.int 1 (.ofNat 3), .int 2 (.ofNat 1)], [.int 1 (.ofNat 4), .int 2 (.ofNat 1)]])) .leaf) (some (.blk false 67 10 [[.int 1 (.ofNat 0), .int 3 (.ofNat 1), .sl 1 0 5 (.rest 0), .sy (.int 1 me), .int 2 (.ofNat 1), .sy (.prow 2 k0), .int 0 (.ofNat 0), .sy (.int 0 com), .sy (.bool sh), .map 3]])) (.node .leaf (some (.prow 45 18 Int l encK)) .leaf))
noncomputable def Rm5n (l : List Int) (com : Int) (sh : Prop) (c0 : Int) (c1 : Int) (c2 : Int) (c3 : Int) (c4 : Int) (me : Int) : T := Rm5 l com sh c0 c1 c2 c3 c4 me l.length
noncomputable def Rs5 (l : List Int) (com : Int) (sh : Prop) (c0 : Int) (c1 : Int) (c2 : Int) (c3 : Int) (c4 : Int) (v0 : Int) (v1 : Int) (v2 : Int) (v3 : Int) (v4 : Int) (k0 : Nat) : T := (.node (.node (.node .leaf (some (.prow 45 18 Int l encK)) .leaf) (some (.blk false 3 1 [[.sy (.int 0 v0)], [.sy (.int 0 v1)], [.sy (.int 0 v2)], [.sy (.int 0 v3)], [.sy (.int 0 v4)]])) .leaf) (some (.blk false 67 10 [[.int 1 (.ofNat 0), .int 3 (.ofNat 1), .sl 2 0 5 (.rest 0), .int 1 (.ofNat 0), .int 2 (.ofNat 1), .sy (.prow 3 k0), .int 0 (.ofNat 0), .sy (.int 0 com), .sy (.bool sh), .map 4]])) (.node (.node .leaf (some (.map [(.agg [.int 1 (.ofNat 0), .int 2 (.ofNat 1)], .sy (.int 0 c0), 0), (.agg [.int 1 (.ofNat 1), .int 2 (.ofNat 1)], .sy (.int 0 c1), 1), (.agg [.int 1 (.ofNat 2), .int 2 (.ofNat 1)], .sy (.int 0 c2), 2), (.agg [.int 1 (.ofNat 3), .int 2 (.ofNat 1)], .sy (.int 0 c3), 3), (.agg [.int 1 (.ofNat 4), .int 2 (.ofNat 1)], .sy (.int 0 c4), 4)] 5)) .leaf) (some (.blk true 31 2 [[.int 1 (.ofNat 0), .int 2 (.ofNat 1)], [.int 1 (.ofNat 1), .int 2 (.ofNat 1)], [.int 1 (.ofNat 2), .int 2 (.ofNat 1)], [.int 1 (.ofNat 3), .int 2 (.ofNat 1)], [.int 1 (.ofNat 4), .int 2 (.ofNat 1)]])) .leaf))
noncomputable def Rs5n (l : List Int) (com : Int) (sh : Prop) (c0 : Int) (c1 : Int) (c2 : Int) (c3 : Int) (c4 : Int) (v0 : Int) (v1 : Int) (v2 : Int) (v3 : Int) (v4 : Int) : T := Rs5 l com sh c0 c1 c2 c3 c4 v0 v1 v2 v3 v4 l.length
theorem fcount {l m : List Int} (h : ∀ v : Int, l.count v = m.count v) {p : Int → Bool} : (l.filter p).length = (m.filter p).length := ((List.perm_iff_count.2 h).filter p).length_eq
def comR (maj : Nat) (com c2 : Int) (cl : List Int) : Prop := ∃ v : Int, c2 = max com v ∧ maj ≤ (cl.filter fun x => decide (v ≤ x)).length
theorem fsuf {a b : List Int} {p : Int → Bool} (h : ∀ x ∈ b, p x = true) : b.length ≤ ((a ++ b).filter p).length := by rw [List.filter_append, List.length_append, List.filter_eq_self.2 h]; omega
noncomputable def Sb1 (x0 : Int) : T := (.node .leaf (some (.blk false 3 1 [[.sy (.int 0 x0)]])) .leaf)
def ft_sort1 : XF := .mk 11 .none (.seq (g_ 3 [p_ 0 3 (m_ 0), p_ 1 4 (k_ 3), p_ 2 2 (m_ 4)]) (g_ 6 [p_ 0 5 (m_ 0), p_ 1 6 (m_ 2), p_ 2 7 (m_ 2), p_ 3 8 (.cnv 4 (.t 7)), c_ 4 9 65 [.t 8], c_ 5 10 64 [.t 5, i_ 0, .t 6, .t 9]]))
theorem ft_sort1_ok : chkF Try.prog 54 ft_sort1 = true := by kernel_rfl
structure A_sort1 where
 x0 : Int
structure R_sort1 where
 y0 : Int
def po_sort1 (p : A_sort1) (r : R_sort1) : Prop := ∀ v : Int, [r.y0].count v = [p.x0].count v
noncomputable def I_sort1 (p : A_sort1) : IE := ([.sl 0 0 1 (.ex 1)], (Sb1 p.x0), 1)
noncomputable def out_sort1 (p : A_sort1) (K : KE) : Bool := allB fun r : R_sort1 => iP (po_sort1 p r) (K (.tup []) (Sb1 r.y0) 1) true
theorem fin_sort1 {p : A_sort1} {K : KE} (hK : out_sort1 p K = true) (r : R_sort1) (h : po_sort1 p r) : K (.tup []) (Sb1 r.y0) 1 = true := ifB_use h (allB_ok hK r)
theorem vf_sort1 (p : A_sort1) (K : KE) (hK : out_sort1 p K = true) : (funE 1 (cfT nat_less) noLp 600 ft_sort1 (I_sort1 p).1 (I_sort1 p).2.1 (I_sort1 p).2.2 K) = true := by
 refine Eq.trans (b := (K (.tup []) (Sb1 p.x0) 1)) (by kernel_rfl) ?_
 obtain ⟨x0⟩ := p; dsimp only; repeat' (first | exact fin_sort1 hK ⟨_⟩ (by (try dsimp only at *); dsimp only [po_sort1]; intro v; simp only [List.count_cons, List.count_nil] <;> omega) | (exfalso; omega) | refine exB_mk { .. } (mI rfl ?_) | refine iI (fun _ => ?_) (fun _ => ?_))
noncomputable def ec_sort1 : SpecE := tstE (elB 0 1) (esOf I_sort1 out_sort1) (fun _ _ _ _ => false)
theorem nc_sort1 : NatE Try.prog 54 1 ec_sort1 := tstE_ok (natE_pn (f := 54) (k := 1) (cfT_ok nat_less_ok) ft_sort1_ok (by rfl) (by rfl) vf_sort1) natE_no
noncomputable def nat_sort1 := natC nat_less 1 ec_sort1 54 [(0, 5)]
theorem nat_sort1_ok : NatsOk Try.prog nat_sort1 := natC_ok nc_sort1 nat_less_ok
noncomputable def Sb2 (x0 : Int) (x1 : Int) : T := (.node .leaf (some (.blk false 3 1 [[.sy (.int 0 x0)], [.sy (.int 0 x1)]])) .leaf)
def ft_sort2 : XF := ft_sort1
theorem ft_sort2_ok : chkF Try.prog 54 ft_sort2 = true := ft_sort1_ok
structure A_sort2 where
 x0 : Int
 x1 : Int
structure R_sort2 where
 y0 : Int
 y1 : Int
def po_sort2 (p : A_sort2) (r : R_sort2) : Prop := r.y0 ≤ r.y1 ∧ ∀ v : Int, [r.y0, r.y1].count v = [p.x0, p.x1].count v
noncomputable def I_sort2 (p : A_sort2) : IE := ([.sl 0 0 2 (.ex 2)], (Sb2 p.x0 p.x1), 1)
noncomputable def out_sort2 (p : A_sort2) (K : KE) : Bool := allB fun r : R_sort2 => iP (po_sort2 p r) (K (.tup []) (Sb2 r.y0 r.y1) 1) true
theorem fin_sort2 {p : A_sort2} {K : KE} (hK : out_sort2 p K = true) (r : R_sort2) (h : po_sort2 p r) : K (.tup []) (Sb2 r.y0 r.y1) 1 = true := ifB_use h (allB_ok hK r)
theorem vf_sort2 (p : A_sort2) (K : KE) (hK : out_sort2 p K = true) : (funE 1 (cfT nat_sort1) noLp 600 ft_sort2 (I_sort2 p).1 (I_sort2 p).2.1 (I_sort2 p).2.2 K) = true := by
 refine Eq.trans (b := (exB fun p1 : A_less => mP (([.sy (.int 0 p.x1), .sy (.int 0 p.x0)], .leaf, 0) = I_less p1) (iP (p1.x < p1.y) (K (.tup []) (Sb2 p.x1 p.x0) 1) (K (.tup []) (Sb2 p.x0 p.x1) 1)))) (by kernel_rfl) ?_
 obtain ⟨x0, x1⟩ := p; dsimp only; repeat' (first | exact fin_sort2 hK ⟨_, _⟩ (by (try dsimp only at *); dsimp only [po_sort2]; refine ⟨by omega, ?_⟩; intro v; simp only [List.count_cons, List.count_nil] <;> omega) | (exfalso; omega) | refine exB_mk { .. } (mI rfl ?_) | refine iI (fun _ => ?_) (fun _ => ?_))
noncomputable def ec_sort2 : SpecE := tstE (elB 0 2) (esOf I_sort2 out_sort2) ec_sort1
theorem nc_sort2 : NatE Try.prog 54 1 ec_sort2 := tstE_ok (natE_pn (f := 54) (k := 1) (cfT_ok nat_sort1_ok) ft_sort2_ok (by rfl) (by rfl) vf_sort2) nc_sort1
noncomputable def nat_sort2 := natC nat_sort1 1 ec_sort2 54 [(0, 5)]
theorem nat_sort2_ok : NatsOk Try.prog nat_sort2 := natC_ok nc_sort2 nat_sort1_ok
noncomputable def Sb3 (x0 : Int) (x1 : Int) (x2 : Int) : T := (.node .leaf (some (.blk false 3 1 [[.sy (.int 0 x0)], [.sy (.int 0 x1)], [.sy (.int 0 x2)]])) .leaf)
def ft_sort3 : XF := ft_sort1
theorem ft_sort3_ok : chkF Try.prog 54 ft_sort3 = true := ft_sort1_ok
structure A_sort3 where
 x0 : Int
 x1 : Int
 x2 : Int
structure R_sort3 where
 y0 : Int
 y1 : Int
 y2 : Int
def po_sort3 (p : A_sort3) (r : R_sort3) : Prop := r.y0 ≤ r.y1 ∧ r.y1 ≤ r.y2 ∧ ∀ v : Int, [r.y0, r.y1, r.y2].count v = [p.x0, p.x1, p.x2].count v
noncomputable def I_sort3 (p : A_sort3) : IE := ([.sl 0 0 3 (.ex 3)], (Sb3 p.x0 p.x1 p.x2), 1)
noncomputable def out_sort3 (p : A_sort3) (K : KE) : Bool := allB fun r : R_sort3 => iP (po_sort3 p r) (K (.tup []) (Sb3 r.y0 r.y1 r.y2) 1) true
theorem fin_sort3 {p : A_sort3} {K : KE} (hK : out_sort3 p K = true) (r : R_sort3) (h : po_sort3 p r) : K (.tup []) (Sb3 r.y0 r.y1 r.y2) 1 = true := ifB_use h (allB_ok hK r)
theorem vf_sort3 (p : A_sort3) (K : KE) (hK : out_sort3 p K = true) : (funE 1 (cfT nat_sort2) noLp 600 ft_sort3 (I_sort3 p).1 (I_sort3 p).2.1 (I_sort3 p).2.2 K) = true := by
 refine Eq.trans (b := (exB fun p1 : A_less => mP (([.sy (.int 0 p.x1), .sy (.int 0 p.x0)], .leaf, 0) = I_less p1) (iP (p1.x < p1.y) (exB fun p2 : A_less => mP (([.sy (.int 0 p.x2), .sy (.int 0 p.x0)], .leaf, 0) = I_less p2) (iP (p2.x < p2.y) (exB fun p3 : A_less => mP (([.sy (.int 0 p.x2), .sy (.int 0 p.x1)], .leaf, 0) = I_less p3) (iP (p3.x < p3.y) (K (.tup []) (Sb3 p.x2 p.x1 p.x0) 1) (K (.tup []) (Sb3 p.x1 p.x2 p.x0) 1))) (K (.tup []) (Sb3 p.x1 p.x0 p.x2) 1))) (exB fun p4 : A_less => mP (([.sy (.int 0 p.x2), .sy (.int 0 p.x1)], .leaf, 0) = I_less p4) (iP (p4.x < p4.y) (exB fun p5 : A_less => mP (([.sy (.int 0 p.x2), .sy (.int 0 p.x0)], .leaf, 0) = I_less p5) (iP (p5.x < p5.y) (K (.tup []) (Sb3 p.x2 p.x0 p.x1) 1) (K (.tup []) (Sb3 p.x0 p.x2 p.x1) 1))) (K (.tup []) (Sb3 p.x0 p.x1 p.x2) 1)))))) (by kernel_rfl) ?_
 obtain ⟨x0, x1, x2⟩ := p; dsimp only; repeat' (first | exact fin_sort3 hK ⟨_, _, _⟩ (by (try dsimp only at *); dsimp only [po_sort3]; refine ⟨by omega, by omega, ?_⟩; intro v; simp only [List.count_cons, List.count_nil] <;> omega) | (exfalso; omega) | refine exB_mk { .. } (mI rfl ?_) | refine iI (fun _ => ?_) (fun _ => ?_))
noncomputable def ec_sort3 : SpecE := tstE (elB 0 3) (esOf I_sort3 out_sort3) ec_sort2
theorem nc_sort3 : NatE Try.prog 54 1 ec_sort3 := tstE_ok (natE_pn (f := 54) (k := 1) (cfT_ok nat_sort2_ok) ft_sort3_ok (by rfl) (by rfl) vf_sort3) nc_sort2
noncomputable def nat_sort3 := natC nat_sort2 1 ec_sort3 54 [(0, 5)]
theorem nat_sort3_ok : NatsOk Try.prog nat_sort3 := natC_ok nc_sort3 nat_sort2_ok
noncomputable def Sb4 (x0 : Int) (x1 : Int) (x2 : Int) (x3 : Int) : T := (.node .leaf (some (.blk false 3 1 [[.sy (.int 0 x0)], [.sy (.int 0 x1)], [.sy (.int 0 x2)], [.sy (.int 0 x3)]])) .leaf)
def ft_sort4 : XF := ft_sort1
theorem ft_sort4_ok : chkF Try.prog 54 ft_sort4 = true := ft_sort1_ok
structure A_sort4 where
 x0 : Int
 x1 : Int
 x2 : Int
 x3 : Int
structure R_sort4 where
 y0 : Int
 y1 : Int
 y2 : Int
 y3 : Int
def po_sort4 (p : A_sort4) (r : R_sort4) : Prop := r.y0 ≤ r.y1 ∧ r.y1 ≤ r.y2 ∧ r.y2 ≤ r.y3 ∧ ∀ v : Int, [r.y0, r.y1, r.y2, r.y3].count v = [p.x0, p.x1, p.x2, p.x3].count v
noncomputable def I_sort4 (p : A_sort4) : IE := ([.sl 0 0 4 (.ex 4)], (Sb4 p.x0 p.x1 p.x2 p.x3), 1)
noncomputable def out_sort4 (p : A_sort4) (K : KE) : Bool := allB fun r : R_sort4 => iP (po_sort4 p r) (K (.tup []) (Sb4 r.y0 r.y1 r.y2 r.y3) 1) true
theorem fin_sort4 {p : A_sort4} {K : KE} (hK : out_sort4 p K = true) (r : R_sort4) (h : po_sort4 p r) : K (.tup []) (Sb4 r.y0 r.y1 r.y2 r.y3) 1 = true := ifB_use h (allB_ok hK r)
theorem vf_sort4 (p : A_sort4) (K : KE) (hK : out_sort4 p K = true) : (funE 1 (cfT nat_sort3) noLp 600 ft_sort4 (I_sort4 p).1 (I_sort4 p).2.1 (I_sort4 p).2.2 K) = true := by
 refine Eq.trans (b := (exB fun p1 : A_less => mP (([.sy (.int 0 p.x1), .sy (.int 0 p.x0)], .leaf, 0) = I_less p1) (iP (p1.x < p1.y) (exB fun p2 : A_less => mP (([.sy (.int 0 p.x2), .sy (.int 0 p.x0)], .leaf, 0) = I_less p2) (iP (p2.x < p2.y) (exB fun p3 : A_less => mP (([.sy (.int 0 p.x2), .sy (.int 0 p.x1)], .leaf, 0) = I_less p3) (iP (p3.x < p3.y) (exB fun p4 : A_less => mP (([.sy (.int 0 p.x3), .sy (.int 0 p.x0)], .leaf, 0) = I_less p4) (iP (p4.x < p4.y) (exB fun p5 : A_less => mP (([.sy (.int 0 p.x3), .sy (.int 0 p.x1)], .leaf, 0) = I_less p5) (iP (p5.x < p5.y) (exB fun p6 : A_less => mP (([.sy (.int 0 p.x3), .sy (.int 0 p.x2)], .leaf, 0) = I_less p6) (iP (p6.x < p6.y) (K (.tup []) (Sb4 p.x3 p.x2 p.x1 p.x0) 1) (K (.tup []) (Sb4 p.x2 p.x3 p.x1 p.x0) 1))) (K (.tup []) (Sb4 p.x2 p.x1 p.x3 p.x0) 1))) (K (.tup []) (Sb4 p.x2 p.x1 p.x0 p.x3) 1))) (exB fun p7 : A_less => mP (([.sy (.int 0 p.x3), .sy (.int 0 p.x0)], .leaf, 0) = I_less p7) (iP (p7.x < p7.y) (exB fun p8 : A_less => mP (([.sy (.int 0 p.x3), .sy (.int 0 p.x2)], .leaf, 0) = I_less p8) (iP (p8.x < p8.y) (exB fun p9 : A_less => mP (([.sy (.int 0 p.x3), .sy (.int 0 p.x1)], .leaf, 0) = I_less p9) (iP (p9.x < p9.y) (K (.tup []) (Sb4 p.x3 p.x1 p.x2 p.x0) 1) (K (.tup []) (Sb4 p.x1 p.x3 p.x2 p.x0) 1))) (K (.tup []) (Sb4 p.x1 p.x2 p.x3 p.x0) 1))) (K (.tup []) (Sb4 p.x1 p.x2 p.x0 p.x3) 1))))) (exB fun p10 : A_less => mP (([.sy (.int 0 p.x3), .sy (.int 0 p.x2)], .leaf, 0) = I_less p10) (iP (p10.x < p10.y) (exB fun p11 : A_less => mP (([.sy (.int 0 p.x3), .sy (.int 0 p.x0)], .leaf, 0) = I_less p11) (iP (p11.x < p11.y) (exB fun p12 : A_less => mP (([.sy (.int 0 p.x3), .sy (.int 0 p.x1)], .leaf, 0) = I_less p12) (iP (p12.x < p12.y) (K (.tup []) (Sb4 p.x3 p.x1 p.x0 p.x2) 1) (K (.tup []) (Sb4 p.x1 p.x3 p.x0 p.x2) 1))) (K (.tup []) (Sb4 p.x1 p.x0 p.x3 p.x2) 1))) (K (.tup []) (Sb4 p.x1 p.x0 p.x2 p.x3) 1))))) (exB fun p13 : A_less => mP (([.sy (.int 0 p.x2), .sy (.int 0 p.x1)], .leaf, 0) = I_less p13) (iP (p13.x < p13.y) (exB fun p14 : A_less => mP (([.sy (.int 0 p.x2), .sy (.int 0 p.x0)], .leaf, 0) = I_less p14) (iP (p14.x < p14.y) (exB fun p15 : A_less => mP (([.sy (.int 0 p.x3), .sy (.int 0 p.x1)], .leaf, 0) = I_less p15) (iP (p15.x < p15.y) (exB fun p16 : A_less => mP (([.sy (.int 0 p.x3), .sy (.int 0 p.x0)], .leaf, 0) = I_less p16) (iP (p16.x < p16.y) (exB fun p17 : A_less => mP (([.sy (.int 0 p.x3), .sy (.int 0 p.x2)], .leaf, 0) = I_less p17) (iP (p17.x < p17.y) (K (.tup []) (Sb4 p.x3 p.x2 p.x0 p.x1) 1) (K (.tup []) (Sb4 p.x2 p.x3 p.x0 p.x1) 1))) (K (.tup []) (Sb4 p.x2 p.x0 p.x3 p.x1) 1))) (K (.tup []) (Sb4 p.x2 p.x0 p.x1 p.x3) 1))) (exB fun p18 : A_less => mP (([.sy (.int 0 p.x3), .sy (.int 0 p.x1)], .leaf, 0) = I_less p18) (iP (p18.x < p18.y) (exB fun p19 : A_less => mP (([.sy (.int 0 p.x3), .sy (.int 0 p.x2)], .leaf, 0) = I_less p19) (iP (p19.x < p19.y) (exB fun p20 : A_less => mP (([.sy (.int 0 p.x3), .sy (.int 0 p.x0)], .leaf, 0) = I_less p20) (iP (p20.x < p20.y) (K (.tup []) (Sb4 p.x3 p.x0 p.x2 p.x1) 1) (K (.tup []) (Sb4 p.x0 p.x3 p.x2 p.x1) 1))) (K (.tup []) (Sb4 p.x0 p.x2 p.x3 p.x1) 1))) (K (.tup []) (Sb4 p.x0 p.x2 p.x1 p.x3) 1))))) (exB fun p21 : A_less => mP (([.sy (.int 0 p.x3), .sy (.int 0 p.x2)], .leaf, 0) = I_less p21) (iP (p21.x < p21.y) (exB fun p22 : A_less => mP (([.sy (.int 0 p.x3), .sy (.int 0 p.x1)], .leaf, 0) = I_less p22) (iP (p22.x < p22.y) (exB fun p23 : A_less => mP (([.sy (.int 0 p.x3), .sy (.int 0 p.x0)], .leaf, 0) = I_less p23) (iP (p23.x < p23.y) (K (.tup []) (Sb4 p.x3 p.x0 p.x1 p.x2) 1) (K (.tup []) (Sb4 p.x0 p.x3 p.x1 p.x2) 1))) (K (.tup []) (Sb4 p.x0 p.x1 p.x3 p.x2) 1))) (K (.tup []) (Sb4 p.x0 p.x1 p.x2 p.x3) 1)))))))) (by kernel_rfl) ?_
 obtain ⟨x0, x1, x2, x3⟩ := p; dsimp only; repeat' (first | exact fin_sort4 hK ⟨_, _, _, _⟩ (by (try dsimp only at *); dsimp only [po_sort4]; refine ⟨by omega, by omega, by omega, ?_⟩; intro v; simp only [List.count_cons, List.count_nil] <;> omega) | (exfalso; omega) | refine exB_mk { .. } (mI rfl ?_) | refine iI (fun _ => ?_) (fun _ => ?_))
noncomputable def ec_sort4 : SpecE := tstE (elB 0 4) (esOf I_sort4 out_sort4) ec_sort3
theorem nc_sort4 : NatE Try.prog 54 1 ec_sort4 := tstE_ok (natE_pn (f := 54) (k := 1) (cfT_ok nat_sort3_ok) ft_sort4_ok (by rfl) (by rfl) vf_sort4) nc_sort3
noncomputable def nat_sort4 := natC nat_sort3 1 ec_sort4 54 [(0, 5)]
theorem nat_sort4_ok : NatsOk Try.prog nat_sort4 := natC_ok nc_sort4 nat_sort3_ok
noncomputable def Sb5 (x0 : Int) (x1 : Int) (x2 : Int) (x3 : Int) (x4 : Int) : T := (.node .leaf (some (.blk false 3 1 [[.sy (.int 0 x0)], [.sy (.int 0 x1)], [.sy (.int 0 x2)], [.sy (.int 0 x3)], [.sy (.int 0 x4)]])) .leaf)
def ft_sort5 : XF := ft_sort1
theorem ft_sort5_ok : chkF Try.prog 54 ft_sort5 = true := ft_sort1_ok
structure A_sort5 where
 x0 : Int
 x1 : Int
 x2 : Int
 x3 : Int
 x4 : Int
structure R_sort5 where
 y0 : Int
 y1 : Int
 y2 : Int
 y3 : Int
 y4 : Int
def po_sort5 (p : A_sort5) (r : R_sort5) : Prop := r.y0 ≤ r.y1 ∧ r.y1 ≤ r.y2 ∧ r.y2 ≤ r.y3 ∧ r.y3 ≤ r.y4 ∧ ∀ v : Int, [r.y0, r.y1, r.y2, r.y3, r.y4].count v = [p.x0, p.x1, p.x2, p.x3, p.x4].count v
noncomputable def I_sort5 (p : A_sort5) : IE := ([.sl 0 0 5 (.ex 5)], (Sb5 p.x0 p.x1 p.x2 p.x3 p.x4), 1)
noncomputable def out_sort5 (p : A_sort5) (K : KE) : Bool := allB fun r : R_sort5 => iP (po_sort5 p r) (K (.tup []) (Sb5 r.y0 r.y1 r.y2 r.y3 r.y4) 1) true
theorem fin_sort5 {p : A_sort5} {K : KE} (hK : out_sort5 p K = true) (r : R_sort5) (h : po_sort5 p r) : K (.tup []) (Sb5 r.y0 r.y1 r.y2 r.y3 r.y4) 1 = true := ifB_use h (allB_ok hK r)
theorem vf_sort5 (p : A_sort5) (K : KE) (hK : out_sort5 p K = true) : (funE 1 (cfT nat_sort4) noLp 600 ft_sort5 (I_sort5 p).1 (I_sort5 p).2.1 (I_sort5 p).2.2 K) = true := by
 refine Eq.trans (b := (exB fun p1 : A_less => mP (([.sy (.int 0 p.x1), .sy (.int 0 p.x0)], .leaf, 0) = I_less p1) (iP (p1.x < p1.y) (exB fun p2 : A_less => mP (([.sy (.int 0 p.x2), .sy (.int 0 p.x0)], .leaf, 0) = I_less p2) (iP (p2.x < p2.y) (exB fun p3 : A_less => mP (([.sy (.int 0 p.x2), .sy (.int 0 p.x1)], .leaf, 0) = I_less p3) (iP (p3.x < p3.y) (exB fun p4 : A_less => mP (([.sy (.int 0 p.x3), .sy (.int 0 p.x0)], .leaf, 0) = I_less p4) (iP (p4.x < p4.y) (exB fun p5 : A_less => mP (([.sy (.int 0 p.x3), .sy (.int 0 p.x1)], .leaf, 0) = I_less p5) (iP (p5.x < p5.y) (exB fun p6 : A_less => mP (([.sy (.int 0 p.x3), .sy (.int 0 p.x2)], .leaf, 0) = I_less p6) (iP (p6.x < p6.y) (exB fun p7 : A_less => mP (([.sy (.int 0 p.x4), .sy (.int 0 p.x0)], .leaf, 0) = I_less p7) (iP (p7.x < p7.y) (exB fun p8 : A_less => mP (([.sy (.int 0 p.x4), .sy (.int 0 p.x1)], .leaf, 0) = I_less p8) (iP (p8.x < p8.y) (exB fun p9 : A_less => mP (([.sy (.int 0 p.x4), .sy (.int 0 p.x2)], .leaf, 0) = I_less p9) (iP (p9.x < p9.y) (exB fun p10 : A_less => mP (([.sy (.int 0 p.x4), .sy (.int 0 p.x3)], .leaf, 0) = I_less p10) (iP (p10.x < p10.y) (K (.tup []) (Sb5 p.x4 p.x3 p.x2 p.x1 p.x0) 1) (K (.tup []) (Sb5 p.x3 p.x4 p.x2 p.x1 p.x0) 1))) (K (.tup []) (Sb5 p.x3 p.x2 p.x4 p.x1 p.x0) 1))) (K (.tup []) (Sb5 p.x3 p.x2 p.x1 p.x4 p.x0) 1))) (K (.tup []) (Sb5 p.x3 p.x2 p.x1 p.x0 p.x4) 1))) (exB fun p11 : A_less => mP (([.sy (.int 0 p.x4), .sy (.int 0 p.x0)], .leaf, 0) = I_less p11) (iP (p11.x < p11.y) (exB fun p12 : A_less => mP (([.sy (.int 0 p.x4), .sy (.int 0 p.x1)], .leaf, 0) = I_less p12) (iP (p12.x < p12.y) (exB fun p13 : A_less => mP (([.sy (.int 0 p.x4), .sy (.int 0 p.x3)], .leaf, 0) = I_less p13) (iP (p13.x < p13.y) (exB fun p14 : A_less => mP (([.sy (.int 0 p.x4), .sy (.int 0 p.x2)], .leaf, 0) = I_less p14) (iP (p14.x < p14.y) (K (.tup []) (Sb5 p.x4 p.x2 p.x3 p.x1 p.x0) 1) (K (.tup []) (Sb5 p.x2 p.x4 p.x3 p.x1 p.x0) 1))) (K (.tup []) (Sb5 p.x2 p.x3 p.x4 p.x1 p.x0) 1))) (K (.tup []) (Sb5 p.x2 p.x3 p.x1 p.x4 p.x0) 1))) (K (.tup []) (Sb5 p.x2 p.x3 p.x1 p.x0 p.x4) 1))))) (exB fun p15 : A_less => mP (([.sy (.int 0 p.x4), .sy (.int 0 p.x0)], .leaf, 0) = I_less p15) (iP (p15.x < p15.y) (exB fun p16 : A_less => mP (([.sy (.int 0 p.x4), .sy (.int 0 p.x3)], .leaf, 0) = I_less p16) (iP (p16.x < p16.y) (exB fun p17 : A_less => mP (([.sy (.int 0 p.x4), .sy (.int 0 p.x1)], .leaf, 0) = I_less p17) (iP (p17.x < p17.y) (exB fun p18 : A_less => mP (([.sy (.int 0 p.x4), .sy (.int 0 p.x2)], .leaf, 0) = I_less p18) (iP (p18.x < p18.y) (K (.tup []) (Sb5 p.x4 p.x2 p.x1 p.x3 p.x0) 1) (K (.tup []) (Sb5 p.x2 p.x4 p.x1 p.x3 p.x0) 1))) (K (.tup []) (Sb5 p.x2 p.x1 p.x4 p.x3 p.x0) 1))) (K (.tup []) (Sb5 p.x2 p.x1 p.x3 p.x4 p.x0) 1))) (K (.tup []) (Sb5 p.x2 p.x1 p.x3 p.x0 p.x4) 1))))) (exB fun p19 : A_less => mP (([.sy (.int 0 p.x4), .sy (.int 0 p.x3)], .leaf, 0) = I_less p19) (iP (p19.x < p19.y) (exB fun p20 : A_less => mP (([.sy (.int 0 p.x4), .sy (.int 0 p.x0)], .leaf, 0) = I_less p20) (iP (p20.x < p20.y) (exB fun p21 : A_less => mP (([.sy (.int 0 p.x4), .sy (.int 0 p.x1)], .leaf, 0) = I_less p21) (iP (p21.x < p21.y) (exB fun p22 : A_less => mP (([.sy (.int 0 p.x4), .sy (.int 0 p.x2)], .leaf, 0) = I_less p22) (iP (p22.x < p22.y) (K (.tup []) (Sb5 p.x4 p.x2 p.x1 p.x0 p.x3) 1) (K (.tup []) (Sb5 p.x2 p.x4 p.x1 p.x0 p.x3) 1))) (K (.tup []) (Sb5 p.x2 p.x1 p.x4 p.x0 p.x3) 1))) (K (.tup []) (Sb5 p.x2 p.x1 p.x0 p.x4 p.x3) 1))) (K (.tup []) (Sb5 p.x2 p.x1 p.x0 p.x3 p.x4) 1))))) (exB fun p23 : A_less => mP (([.sy (.int 0 p.x3), .sy (.int 0 p.x0)], .leaf, 0) = I_less p23) (iP (p23.x < p23.y) (exB fun p24 : A_less => mP (([.sy (.int 0 p.x3), .sy (.int 0 p.x2)], .leaf, 0) = I_less p24) (iP (p24.x < p24.y) (exB fun p25 : A_less => mP (([.sy (.int 0 p.x3), .sy (.int 0 p.x1)], .leaf, 0) = I_less p25) (iP (p25.x < p25.y) (exB fun p26 : A_less => mP (([.sy (.int 0 p.x4), .sy (.int 0 p.x0)], .leaf, 0) = I_less p26) (iP (p26.x < p26.y) (exB fun p27 : A_less => mP (([.sy (.int 0 p.x4), .sy (.int 0 p.x2)], .leaf, 0) = I_less p27) (iP (p27.x < p27.y) (exB fun p28 : A_less => mP (([.sy (.int 0 p.x4), .sy (.int 0 p.x1)], .leaf, 0) = I_less p28) (iP (p28.x < p28.y) (exB fun p29 : A_less => mP (([.sy (.int 0 p.x4), .sy (.int 0 p.x3)], .leaf, 0) = I_less p29) (iP (p29.x < p29.y) (K (.tup []) (Sb5 p.x4 p.x3 p.x1 p.x2 p.x0) 1) (K (.tup []) (Sb5 p.x3 p.x4 p.x1 p.x2 p.x0) 1))) (K (.tup []) (Sb5 p.x3 p.x1 p.x4 p.x2 p.x0) 1))) (K (.tup []) (Sb5 p.x3 p.x1 p.x2 p.x4 p.x0) 1))) (K (.tup []) (Sb5 p.x3 p.x1 p.x2 p.x0 p.x4) 1))) (exB fun p30 : A_less => mP (([.sy (.int 0 p.x4), .sy (.int 0 p.x0)], .leaf, 0) = I_less p30) (iP (p30.x < p30.y) (exB fun p31 : A_less => mP (([.sy (.int 0 p.x4), .sy (.int 0 p.x2)], .leaf, 0) = I_less p31) (iP (p31.x < p31.y) (exB fun p32 : A_less => mP (([.sy (.int 0 p.x4), .sy (.int 0 p.x3)], .leaf, 0) = I_less p32) (iP (p32.x < p32.y) (exB fun p33 : A_less => mP (([.sy (.int 0 p.x4), .sy (.int 0 p.x1)], .leaf, 0) = I_less p33) (iP (p33.x < p33.y) (K (.tup []) (Sb5 p.x4 p.x1 p.x3 p.x2 p.x0) 1) (K (.tup []) (Sb5 p.x1 p.x4 p.x3 p.x2 p.x0) 1))) (K (.tup []) (Sb5 p.x1 p.x3 p.x4 p.x2 p.x0) 1))) (K (.tup []) (Sb5 p.x1 p.x3 p.x2 p.x4 p.x0) 1))) (K (.tup []) (Sb5 p.x1 p.x3 p.x2 p.x0 p.x4) 1))))) (exB fun p34 : A_less => mP (([.sy (.int 0 p.x4), .sy (.int 0 p.x0)], .leaf, 0) = I_less p34) (iP (p34.x < p34.y) (exB fun p35 : A_less => mP (([.sy (.int 0 p.x4), .sy (.int 0 p.x3)], .leaf, 0) = I_less p35) (iP (p35.x < p35.y) (exB fun p36 : A_less => mP (([.sy (.int 0 p.x4), .sy (.int 0 p.x2)], .leaf, 0) = I_less p36) (iP (p36.x < p36.y) (exB fun p37 : A_less => mP (([.sy (.int 0 p.x4), .sy (.int 0 p.x1)], .leaf, 0) = I_less p37) (iP (p37.x < p37.y) (K (.tup []) (Sb5 p.x4 p.x1 p.x2 p.x3 p.x0) 1) (K (.tup []) (Sb5 p.x1 p.x4 p.x2 p.x3 p.x0) 1))) (K (.tup []) (Sb5 p.x1 p.x2 p.x4 p.x3 p.x0) 1))) (K (.tup []) (Sb5 p.x1 p.x2 p.x3 p.x4 p.x0) 1))) (K (.tup []) (Sb5 p.x1 p.x2 p.x3 p.x0 p.x4) 1))))) (exB fun p38 : A_less => mP (([.sy (.int 0 p.x4), .sy (.int 0 p.x3)], .leaf, 0) = I_less p38) (iP (p38.x < p38.y) (exB fun p39 : A_less => mP (([.sy (.int 0 p.x4), .sy (.int 0 p.x0)], .leaf, 0) = I_less p39) (iP (p39.x < p39.y) (exB fun p40 : A_less => mP (([.sy (.int 0 p.x4), .sy (.int 0 p.x2)], .leaf, 0) = I_less p40) (iP (p40.x < p40.y) (exB fun p41 : A_less => mP (([.sy (.int 0 p.x4), .sy (.int 0 p.x1)], .leaf, 0) = I_less p41) (iP (p41.x < p41.y) (K (.tup []) (Sb5 p.x4 p.x1 p.x2 p.x0 p.x3) 1) (K (.tup []) (Sb5 p.x1 p.x4 p.x2 p.x0 p.x3) 1))) (K (.tup []) (Sb5 p.x1 p.x2 p.x4 p.x0 p.x3) 1))) (K (.tup []) (Sb5 p.x1 p.x2 p.x0 p.x4 p.x3) 1))) (K (.tup []) (Sb5 p.x1 p.x2 p.x0 p.x3 p.x4) 1))))))) (exB fun p42 : A_less => mP (([.sy (.int 0 p.x3), .sy (.int 0 p.x2)], .leaf, 0) = I_less p42) (iP (p42.x < p42.y) (exB fun p43 : A_less => mP (([.sy (.int 0 p.x3), .sy (.int 0 p.x0)], .leaf, 0) = I_less p43) (iP (p43.x < p43.y) (exB fun p44 : A_less => mP (([.sy (.int 0 p.x3), .sy (.int 0 p.x1)], .leaf, 0) = I_less p44) (iP (p44.x < p44.y) (exB fun p45 : A_less => mP (([.sy (.int 0 p.x4), .sy (.int 0 p.x2)], .leaf, 0) = I_less p45) (iP (p45.x < p45.y) (exB fun p46 : A_less => mP (([.sy (.int 0 p.x4), .sy (.int 0 p.x0)], .leaf, 0) = I_less p46) (iP (p46.x < p46.y) (exB fun p47 : A_less => mP (([.sy (.int 0 p.x4), .sy (.int 0 p.x1)], .leaf, 0) = I_less p47) (iP (p47.x < p47.y) (exB fun p48 : A_less => mP (([.sy (.int 0 p.x4), .sy (.int 0 p.x3)], .leaf, 0) = I_less p48) (iP (p48.x < p48.y) (K (.tup []) (Sb5 p.x4 p.x3 p.x1 p.x0 p.x2) 1) (K (.tup []) (Sb5 p.x3 p.x4 p.x1 p.x0 p.x2) 1))) (K (.tup []) (Sb5 p.x3 p.x1 p.x4 p.x0 p.x2) 1))) (K (.tup []) (Sb5 p.x3 p.x1 p.x0 p.x4 p.x2) 1))) (K (.tup []) (Sb5 p.x3 p.x1 p.x0 p.x2 p.x4) 1))) (exB fun p49 : A_less => mP (([.sy (.int 0 p.x4), .sy (.int 0 p.x2)], .leaf, 0) = I_less p49) (iP (p49.x < p49.y) (exB fun p50 : A_less => mP (([.sy (.int 0 p.x4), .sy (.int 0 p.x0)], .leaf, 0) = I_less p50) (iP (p50.x < p50.y) (exB fun p51 : A_less => mP (([.sy (.int 0 p.x4), .sy (.int 0 p.x3)], .leaf, 0) = I_less p51) (iP (p51.x < p51.y) (exB fun p52 : A_less => mP (([.sy (.int 0 p.x4), .sy (.int 0 p.x1)], .leaf, 0) = I_less p52) (iP (p52.x < p52.y) (K (.tup []) (Sb5 p.x4 p.x1 p.x3 p.x0 p.x2) 1) (K (.tup []) (Sb5 p.x1 p.x4 p.x3 p.x0 p.x2) 1))) (K (.tup []) (Sb5 p.x1 p.x3 p.x4 p.x0 p.x2) 1))) (K (.tup []) (Sb5 p.x1 p.x3 p.x0 p.x4 p.x2) 1))) (K (.tup []) (Sb5 p.x1 p.x3 p.x0 p.x2 p.x4) 1))))) (exB fun p53 : A_less => mP (([.sy (.int 0 p.x4), .sy (.int 0 p.x2)], .leaf, 0) = I_less p53) (iP (p53.x < p53.y) (exB fun p54 : A_less => mP (([.sy (.int 0 p.x4), .sy (.int 0 p.x3)], .leaf, 0) = I_less p54) (iP (p54.x < p54.y) (exB fun p55 : A_less => mP (([.sy (.int 0 p.x4), .sy (.int 0 p.x0)], .leaf, 0) = I_less p55) (iP (p55.x < p55.y) (exB fun p56 : A_less => mP (([.sy (.int 0 p.x4), .sy (.int 0 p.x1)], .leaf, 0) = I_less p56) (iP (p56.x < p56.y) (K (.tup []) (Sb5 p.x4 p.x1 p.x0 p.x3 p.x2) 1) (K (.tup []) (Sb5 p.x1 p.x4 p.x0 p.x3 p.x2) 1))) (K (.tup []) (Sb5 p.x1 p.x0 p.x4 p.x3 p.x2) 1))) (K (.tup []) (Sb5 p.x1 p.x0 p.x3 p.x4 p.x2) 1))) (K (.tup []) (Sb5 p.x1 p.x0 p.x3 p.x2 p.x4) 1))))) (exB fun p57 : A_less => mP (([.sy (.int 0 p.x4), .sy (.int 0 p.x3)], .leaf, 0) = I_less p57) (iP (p57.x < p57.y) (exB fun p58 : A_less => mP (([.sy (.int 0 p.x4), .sy (.int 0 p.x2)], .leaf, 0) = I_less p58) (iP (p58.x < p58.y) (exB fun p59 : A_less => mP (([.sy (.int 0 p.x4), .sy (.int 0 p.x0)], .leaf, 0) = I_less p59) (iP (p59.x < p59.y) (exB fun p60 : A_less => mP (([.sy (.int 0 p.x4), .sy (.int 0 p.x1)], .leaf, 0) = I_less p60) (iP (p60.x < p60.y) (K (.tup []) (Sb5 p.x4 p.x1 p.x0 p.x2 p.x3) 1) (K (.tup []) (Sb5 p.x1 p.x4 p.x0 p.x2 p.x3) 1))) (K (.tup []) (Sb5 p.x1 p.x0 p.x4 p.x2 p.x3) 1))) (K (.tup []) (Sb5 p.x1 p.x0 p.x2 p.x4 p.x3) 1))) (K (.tup []) (Sb5 p.x1 p.x0 p.x2 p.x3 p.x4) 1))))))) (exB fun p61 : A_less => mP (([.sy (.int 0 p.x2), .sy (.int 0 p.x1)], .leaf, 0) = I_less p61) (iP (p61.x < p61.y) (exB fun p62 : A_less => mP (([.sy (.int 0 p.x2), .sy (.int 0 p.x0)], .leaf, 0) = I_less p62) (iP (p62.x < p62.y) (exB fun p63 : A_less => mP (([.sy (.int 0 p.x3), .sy (.int 0 p.x1)], .leaf, 0) = I_less p63) (iP (p63.x < p63.y) (exB fun p64 : A_less => mP (([.sy (.int 0 p.x3), .sy (.int 0 p.x0)], .leaf, 0) = I_less p64) (iP (p64.x < p64.y) (exB fun p65 : A_less => mP (([.sy (.int 0 p.x3), .sy (.int 0 p.x2)], .leaf, 0) = I_less p65) (iP (p65.x < p65.y) (exB fun p66 : A_less => mP (([.sy (.int 0 p.x4), .sy (.int 0 p.x1)], .leaf, 0) = I_less p66) (iP (p66.x < p66.y) (exB fun p67 : A_less => mP (([.sy (.int 0 p.x4), .sy (.int 0 p.x0)], .leaf, 0) = I_less p67) (iP (p67.x < p67.y) (exB fun p68 : A_less => mP (([.sy (.int 0 p.x4), .sy (.int 0 p.x2)], .leaf, 0) = I_less p68) (iP (p68.x < p68.y) (exB fun p69 : A_less => mP (([.sy (.int 0 p.x4), .sy (.int 0 p.x3)], .leaf, 0) = I_less p69) (iP (p69.x < p69.y) (K (.tup []) (Sb5 p.x4 p.x3 p.x2 p.x0 p.x1) 1) (K (.tup []) (Sb5 p.x3 p.x4 p.x2 p.x0 p.x1) 1))) (K (.tup []) (Sb5 p.x3 p.x2 p.x4 p.x0 p.x1) 1))) (K (.tup []) (Sb5 p.x3 p.x2 p.x0 p.x4 p.x1) 1))) (K (.tup []) (Sb5 p.x3 p.x2 p.x0 p.x1 p.x4) 1))) (exB fun p70 : A_less => mP (([.sy (.int 0 p.x4), .sy (.int 0 p.x1)], .leaf, 0) = I_less p70) (iP (p70.x < p70.y) (exB fun p71 : A_less => mP (([.sy (.int 0 p.x4), .sy (.int 0 p.x0)], .leaf, 0) = I_less p71) (iP (p71.x < p71.y) (exB fun p72 : A_less => mP (([.sy (.int 0 p.x4), .sy (.int 0 p.x3)], .leaf, 0) = I_less p72) (iP (p72.x < p72.y) (exB fun p73 : A_less => mP (([.sy (.int 0 p.x4), .sy (.int 0 p.x2)], .leaf, 0) = I_less p73) (iP (p73.x < p73.y) (K (.tup []) (Sb5 p.x4 p.x2 p.x3 p.x0 p.x1) 1) (K (.tup []) (Sb5 p.x2 p.x4 p.x3 p.x0 p.x1) 1))) (K (.tup []) (Sb5 p.x2 p.x3 p.x4 p.x0 p.x1) 1))) (K (.tup []) (Sb5 p.x2 p.x3 p.x0 p.x4 p.x1) 1))) (K (.tup []) (Sb5 p.x2 p.x3 p.x0 p.x1 p.x4) 1))))) (exB fun p74 : A_less => mP (([.sy (.int 0 p.x4), .sy (.int 0 p.x1)], .leaf, 0) = I_less p74) (iP (p74.x < p74.y) (exB fun p75 : A_less => mP (([.sy (.int 0 p.x4), .sy (.int 0 p.x3)], .leaf, 0) = I_less p75) (iP (p75.x < p75.y) (exB fun p76 : A_less => mP (([.sy (.int 0 p.x4), .sy (.int 0 p.x0)], .leaf, 0) = I_less p76) (iP (p76.x < p76.y) (exB fun p77 : A_less => mP (([.sy (.int 0 p.x4), .sy (.int 0 p.x2)], .leaf, 0) = I_less p77) (iP (p77.x < p77.y) (K (.tup []) (Sb5 p.x4 p.x2 p.x0 p.x3 p.x1) 1) (K (.tup []) (Sb5 p.x2 p.x4 p.x0 p.x3 p.x1) 1))) (K (.tup []) (Sb5 p.x2 p.x0 p.x4 p.x3 p.x1) 1))) (K (.tup []) (Sb5 p.x2 p.x0 p.x3 p.x4 p.x1) 1))) (K (.tup []) (Sb5 p.x2 p.x0 p.x3 p.x1 p.x4) 1))))) (exB fun p78 : A_less => mP (([.sy (.int 0 p.x4), .sy (.int 0 p.x3)], .leaf, 0) = I_less p78) (iP (p78.x < p78.y) (exB fun p79 : A_less => mP (([.sy (.int 0 p.x4), .sy (.int 0 p.x1)], .leaf, 0) = I_less p79) (iP (p79.x < p79.y) (exB fun p80 : A_less => mP (([.sy (.int 0 p.x4), .sy (.int 0 p.x0)], .leaf, 0) = I_less p80) (iP (p80.x < p80.y) (exB fun p81 : A_less => mP (([.sy (.int 0 p.x4), .sy (.int 0 p.x2)], .leaf, 0) = I_less p81) (iP (p81.x < p81.y) (K (.tup []) (Sb5 p.x4 p.x2 p.x0 p.x1 p.x3) 1) (K (.tup []) (Sb5 p.x2 p.x4 p.x0 p.x1 p.x3) 1))) (K (.tup []) (Sb5 p.x2 p.x0 p.x4 p.x1 p.x3) 1))) (K (.tup []) (Sb5 p.x2 p.x0 p.x1 p.x4 p.x3) 1))) (K (.tup []) (Sb5 p.x2 p.x0 p.x1 p.x3 p.x4) 1))))) (exB fun p82 : A_less => mP (([.sy (.int 0 p.x3), .sy (.int 0 p.x1)], .leaf, 0) = I_less p82) (iP (p82.x < p82.y) (exB fun p83 : A_less => mP (([.sy (.int 0 p.x3), .sy (.int 0 p.x2)], .leaf, 0) = I_less p83) (iP (p83.x < p83.y) (exB fun p84 : A_less => mP (([.sy (.int 0 p.x3), .sy (.int 0 p.x0)], .leaf, 0) = I_less p84) (iP (p84.x < p84.y) (exB fun p85 : A_less => mP (([.sy (.int 0 p.x4), .sy (.int 0 p.x1)], .leaf, 0) = I_less p85) (iP (p85.x < p85.y) (exB fun p86 : A_less => mP (([.sy (.int 0 p.x4), .sy (.int 0 p.x2)], .leaf, 0) = I_less p86) (iP (p86.x < p86.y) (exB fun p87 : A_less => mP (([.sy (.int 0 p.x4), .sy (.int 0 p.x0)], .leaf, 0) = I_less p87) (iP (p87.x < p87.y) (exB fun p88 : A_less => mP (([.sy (.int 0 p.x4), .sy (.int 0 p.x3)], .leaf, 0) = I_less p88) (iP (p88.x < p88.y) (K (.tup []) (Sb5 p.x4 p.x3 p.x0 p.x2 p.x1) 1) (K (.tup []) (Sb5 p.x3 p.x4 p.x0 p.x2 p.x1) 1))) (K (.tup []) (Sb5 p.x3 p.x0 p.x4 p.x2 p.x1) 1))) (K (.tup []) (Sb5 p.x3 p.x0 p.x2 p.x4 p.x1) 1))) (K (.tup []) (Sb5 p.x3 p.x0 p.x2 p.x1 p.x4) 1))) (exB fun p89 : A_less => mP (([.sy (.int 0 p.x4), .sy (.int 0 p.x1)], .leaf, 0) = I_less p89) (iP (p89.x < p89.y) (exB fun p90 : A_less => mP (([.sy (.int 0 p.x4), .sy (.int 0 p.x2)], .leaf, 0) = I_less p90) (iP (p90.x < p90.y) (exB fun p91 : A_less => mP (([.sy (.int 0 p.x4), .sy (.int 0 p.x3)], .leaf, 0) = I_less p91) (iP (p91.x < p91.y) (exB fun p92 : A_less => mP (([.sy (.int 0 p.x4), .sy (.int 0 p.x0)], .leaf, 0) = I_less p92) (iP (p92.x < p92.y) (K (.tup []) (Sb5 p.x4 p.x0 p.x3 p.x2 p.x1) 1) (K (.tup []) (Sb5 p.x0 p.x4 p.x3 p.x2 p.x1) 1))) (K (.tup []) (Sb5 p.x0 p.x3 p.x4 p.x2 p.x1) 1))) (K (.tup []) (Sb5 p.x0 p.x3 p.x2 p.x4 p.x1) 1))) (K (.tup []) (Sb5 p.x0 p.x3 p.x2 p.x1 p.x4) 1))))) (exB fun p93 : A_less => mP (([.sy (.int 0 p.x4), .sy (.int 0 p.x1)], .leaf, 0) = I_less p93) (iP (p93.x < p93.y) (exB fun p94 : A_less => mP (([.sy (.int 0 p.x4), .sy (.int 0 p.x3)], .leaf, 0) = I_less p94) (iP (p94.x < p94.y) (exB fun p95 : A_less => mP (([.sy (.int 0 p.x4), .sy (.int 0 p.x2)], .leaf, 0) = I_less p95) (iP (p95.x < p95.y) (exB fun p96 : A_less => mP (([.sy (.int 0 p.x4), .sy (.int 0 p.x0)], .leaf, 0) = I_less p96) (iP (p96.x < p96.y) (K (.tup []) (Sb5 p.x4 p.x0 p.x2 p.x3 p.x1) 1) (K (.tup []) (Sb5 p.x0 p.x4 p.x2 p.x3 p.x1) 1))) (K (.tup []) (Sb5 p.x0 p.x2 p.x4 p.x3 p.x1) 1))) (K (.tup []) (Sb5 p.x0 p.x2 p.x3 p.x4 p.x1) 1))) (K (.tup []) (Sb5 p.x0 p.x2 p.x3 p.x1 p.x4) 1))))) (exB fun p97 : A_less => mP (([.sy (.int 0 p.x4), .sy (.int 0 p.x3)], .leaf, 0) = I_less p97) (iP (p97.x < p97.y) (exB fun p98 : A_less => mP (([.sy (.int 0 p.x4), .sy (.int 0 p.x1)], .leaf, 0) = I_less p98) (iP (p98.x < p98.y) (exB fun p99 : A_less => mP (([.sy (.int 0 p.x4), .sy (.int 0 p.x2)], .leaf, 0) = I_less p99) (iP (p99.x < p99.y) (exB fun p100 : A_less => mP (([.sy (.int 0 p.x4), .sy (.int 0 p.x0)], .leaf, 0) = I_less p100) (iP (p100.x < p100.y) (K (.tup []) (Sb5 p.x4 p.x0 p.x2 p.x1 p.x3) 1) (K (.tup []) (Sb5 p.x0 p.x4 p.x2 p.x1 p.x3) 1))) (K (.tup []) (Sb5 p.x0 p.x2 p.x4 p.x1 p.x3) 1))) (K (.tup []) (Sb5 p.x0 p.x2 p.x1 p.x4 p.x3) 1))) (K (.tup []) (Sb5 p.x0 p.x2 p.x1 p.x3 p.x4) 1))))))) (exB fun p101 : A_less => mP (([.sy (.int 0 p.x3), .sy (.int 0 p.x2)], .leaf, 0) = I_less p101) (iP (p101.x < p101.y) (exB fun p102 : A_less => mP (([.sy (.int 0 p.x3), .sy (.int 0 p.x1)], .leaf, 0) = I_less p102) (iP (p102.x < p102.y) (exB fun p103 : A_less => mP (([.sy (.int 0 p.x3), .sy (.int 0 p.x0)], .leaf, 0) = I_less p103) (iP (p103.x < p103.y) (exB fun p104 : A_less => mP (([.sy (.int 0 p.x4), .sy (.int 0 p.x2)], .leaf, 0) = I_less p104) (iP (p104.x < p104.y) (exB fun p105 : A_less => mP (([.sy (.int 0 p.x4), .sy (.int 0 p.x1)], .leaf, 0) = I_less p105) (iP (p105.x < p105.y) (exB fun p106 : A_less => mP (([.sy (.int 0 p.x4), .sy (.int 0 p.x0)], .leaf, 0) = I_less p106) (iP (p106.x < p106.y) (exB fun p107 : A_less => mP (([.sy (.int 0 p.x4), .sy (.int 0 p.x3)], .leaf, 0) = I_less p107) (iP (p107.x < p107.y) (K (.tup []) (Sb5 p.x4 p.x3 p.x0 p.x1 p.x2) 1) (K (.tup []) (Sb5 p.x3 p.x4 p.x0 p.x1 p.x2) 1))) (K (.tup []) (Sb5 p.x3 p.x0 p.x4 p.x1 p.x2) 1))) (K (.tup []) (Sb5 p.x3 p.x0 p.x1 p.x4 p.x2) 1))) (K (.tup []) (Sb5 p.x3 p.x0 p.x1 p.x2 p.x4) 1))) (exB fun p108 : A_less => mP (([.sy (.int 0 p.x4), .sy (.int 0 p.x2)], .leaf, 0) = I_less p108) (iP (p108.x < p108.y) (exB fun p109 : A_less => mP (([.sy (.int 0 p.x4), .sy (.int 0 p.x1)], .leaf, 0) = I_less p109) (iP (p109.x < p109.y) (exB fun p110 : A_less => mP (([.sy (.int 0 p.x4), .sy (.int 0 p.x3)], .leaf, 0) = I_less p110) (iP (p110.x < p110.y) (exB fun p111 : A_less => mP (([.sy (.int 0 p.x4), .sy (.int 0 p.x0)], .leaf, 0) = I_less p111) (iP (p111.x < p111.y) (K (.tup []) (Sb5 p.x4 p.x0 p.x3 p.x1 p.x2) 1) (K (.tup []) (Sb5 p.x0 p.x4 p.x3 p.x1 p.x2) 1))) (K (.tup []) (Sb5 p.x0 p.x3 p.x4 p.x1 p.x2) 1))) (K (.tup []) (Sb5 p.x0 p.x3 p.x1 p.x4 p.x2) 1))) (K (.tup []) (Sb5 p.x0 p.x3 p.x1 p.x2 p.x4) 1))))) (exB fun p112 : A_less => mP (([.sy (.int 0 p.x4), .sy (.int 0 p.x2)], .leaf, 0) = I_less p112) (iP (p112.x < p112.y) (exB fun p113 : A_less => mP (([.sy (.int 0 p.x4), .sy (.int 0 p.x3)], .leaf, 0) = I_less p113) (iP (p113.x < p113.y) (exB fun p114 : A_less => mP (([.sy (.int 0 p.x4), .sy (.int 0 p.x1)], .leaf, 0) = I_less p114) (iP (p114.x < p114.y) (exB fun p115 : A_less => mP (([.sy (.int 0 p.x4), .sy (.int 0 p.x0)], .leaf, 0) = I_less p115) (iP (p115.x < p115.y) (K (.tup []) (Sb5 p.x4 p.x0 p.x1 p.x3 p.x2) 1) (K (.tup []) (Sb5 p.x0 p.x4 p.x1 p.x3 p.x2) 1))) (K (.tup []) (Sb5 p.x0 p.x1 p.x4 p.x3 p.x2) 1))) (K (.tup []) (Sb5 p.x0 p.x1 p.x3 p.x4 p.x2) 1))) (K (.tup []) (Sb5 p.x0 p.x1 p.x3 p.x2 p.x4) 1))))) (exB fun p116 : A_less => mP (([.sy (.int 0 p.x4), .sy (.int 0 p.x3)], .leaf, 0) = I_less p116) (iP (p116.x < p116.y) (exB fun p117 : A_less => mP (([.sy (.int 0 p.x4), .sy (.int 0 p.x2)], .leaf, 0) = I_less p117) (iP (p117.x < p117.y) (exB fun p118 : A_less => mP (([.sy (.int 0 p.x4), .sy (.int 0 p.x1)], .leaf, 0) = I_less p118) (iP (p118.x < p118.y) (exB fun p119 : A_less => mP (([.sy (.int 0 p.x4), .sy (.int 0 p.x0)], .leaf, 0) = I_less p119) (iP (p119.x < p119.y) (K (.tup []) (Sb5 p.x4 p.x0 p.x1 p.x2 p.x3) 1) (K (.tup []) (Sb5 p.x0 p.x4 p.x1 p.x2 p.x3) 1))) (K (.tup []) (Sb5 p.x0 p.x1 p.x4 p.x2 p.x3) 1))) (K (.tup []) (Sb5 p.x0 p.x1 p.x2 p.x4 p.x3) 1))) (K (.tup []) (Sb5 p.x0 p.x1 p.x2 p.x3 p.x4) 1)))))))))) (by kernel_rfl) ?_
 obtain ⟨x0, x1, x2, x3, x4⟩ := p; dsimp only; repeat' (first | exact fin_sort5 hK ⟨_, _, _, _, _⟩ (by (try dsimp only at *); dsimp only [po_sort5]; refine ⟨by omega, by omega, by omega, by omega, ?_⟩; intro v; simp only [List.count_cons, List.count_nil] <;> omega) | (exfalso; omega) | refine exB_mk { .. } (mI rfl ?_) | refine iI (fun _ => ?_) (fun _ => ?_))
noncomputable def ec_sort5 : SpecE := tstE (elB 0 5) (esOf I_sort5 out_sort5) ec_sort4
theorem nc_sort5 : NatE Try.prog 54 1 ec_sort5 := tstE_ok (natE_pn (f := 54) (k := 1) (cfT_ok nat_sort4_ok) ft_sort5_ok (by rfl) (by rfl) vf_sort5) nc_sort4
noncomputable def nat_sort5 := natC nat_sort4 1 ec_sort5 54 [(0, 5)]
theorem nat_sort5_ok : NatsOk Try.prog nat_sort5 := natC_ok nc_sort5 nat_sort4_ok
def ft_settle1 : XF := .mk 58 .none (.seq (h_ 14 [p_ 0 5 (m_ 0), p_ 1 6 (n_ 5), p_ 2 7 (f_ 9 6), r_ 3 8 (l_ 7), p_ 4 9 (m_ 0), p_ 5 10 (n_ 9), p_ 6 11 (f_ 3 10), r_ 7 12 (.ld true 2 (.t 11)), p_ 8 13 (m_ 0), p_ 9 14 (n_ 13), p_ 10 15 (f_ 5 14), r_ 11 16 (l_ 15), p_ 12 17 (k_ 16), e0_ 13 (.mu 2 (.st [(0, 1, false, .int), (1, 1, false, .int)]) (.t 8) (.t 12) (.t 17))]) (.seq (g_ 7 [p_ 0 18 (m_ 0), p_ 1 19 (n_ 18), p_ 2 20 (f_ 9 19), r_ 3 21 (l_ 20), r_ 4 22 (.mlen (.t 21)), e_ 5 23 (.mks 3 1 8 [.int 0 (.ofNat 0)] (i_ 0) (.t 22)), p_ 6 2 (m_ 23)]) (.seq (.pre [.can 1 [0, 2]] (.spc 0 (.aft (.seq (g_ 5 [p_ 0 24 (m_ 0), p_ 1 25 (n_ 24), p_ 2 26 (f_ 9 25), r_ 3 27 (l_ 26), e_ 4 28 (.rng (.t 27))]) (.block 2 (.loop [0, 2, 4, 28, 29, 30, 31, 32, 33, 34, 35, 36, 37, 39, 40, 41, 42, 43, 44, 45, 46, 47, 48, 49, 50, 51, 52, 53, 54, 55, 56, 57] (.seq (g_ 2 [e_ 0 29 (.nxt (.t 28)), p_ 1 30 (.ext 0 (.t 29))]) (.seq (.cond (.t 30) .skip (.exit 2)) (.block 3 (.seq (g_ 3 [r_ 0 31 (.ent (.t 28)), p_ 1 32 (.ext 1 (.t 31)), p_ 2 4 (m_ 32)]) (g_ 5 [p_ 0 33 (m_ 2), p_ 1 34 (m_ 4), e_ 2 35 (.bsl 3 1 1 [.int 0 (.ofNat 0)] [(0, 1)] [.t 34]), e_ 3 36 (.app 3 1 8 (.t 33) (.t 35)), p_ 4 2 (m_ 36)])))))))) [(0, [.can 1 [0, 2]])]))) (.seq (g_ 2 [p_ 0 37 (m_ 2), c_ 1 38 54 [.t 37]]) (h_ 20 [p_ 0 39 (m_ 0), p_ 1 40 (m_ 0), p_ 2 41 (n_ 40), p_ 3 42 (f_ 7 41), r_ 4 43 (l_ 42), p_ 5 44 (m_ 2), p_ 6 45 (m_ 2), p_ 7 46 (k_ 45), p_ 8 47 (m_ 0), p_ 9 48 (n_ 47), p_ 10 49 (f_ 0 48), r_ 11 50 (.ld true 3 (.t 49)), c_ 12 51 55 [.t 50], a_ 4 43 (l_ 42), p_ 13 52 (.bin 0 1 (.t 46) (.t 51)), p_ 14 53 (.ixs 1 (.t 44) (.t 52)), r_ 15 54 (l_ 53), p_ 16 55 (.mx true (.t 43) (.t 54)), p_ 17 56 (n_ 39), p_ 18 57 (f_ 7 56), e0_ 19 (.st 1 (.t 57) (.t 55))])))))
theorem ft_settle1_ok : chkF Try.prog 37 ft_settle1 = true := by kernel_rfl
structure A_rg1 where
 l : List Int
 com : Int
 sh : Prop
 c0 : Int
structure R_rg1 where
 v0 : Int
def po_rg1 (p : A_rg1) (r : R_rg1) : Prop := ∀ v : Int, [r.v0].count v = [p.c0].count v
noncomputable def I_rg1 (p : A_rg1) : IL := ((.cons 2 (.sl 1 0 0 (.ex 1)) (.cons 0 (.ptr 0 0) .nil)), (.node (.node (.node .leaf (some (.prow 45 18 Int p.l encK)) .leaf) (some (.blk false 3 1 [[.int 0 (.ofNat 0)]])) .leaf) (some (.blk false 67 10 [[.int 1 (.ofNat 0), .int 3 (.ofNat 1), .sl 2 0 1 (.rest 0), .int 1 (.ofNat 0), .int 2 (.ofNat 1), .sy (.prow 3 p.l.length), .int 0 (.ofNat 0), .sy (.int 0 p.com), .sy (.bool p.sh), .map 4]])) (.node (.node .leaf (some (.map [(.agg [.int 1 (.ofNat 0), .int 2 (.ofNat 1)], .sy (.int 0 p.c0), 0)] 1)) .leaf) (some (.blk true 31 2 [[.int 1 (.ofNat 0), .int 2 (.ofNat 1)]])) .leaf)), 5)
noncomputable def out_rg1 (p : A_rg1) (K : KC) : Bool := allB fun r : R_rg1 => iP (po_rg1 p r) (K 0 (.cons 2 (.sl 1 0 1 (.ex 1)) (.cons 0 (.ptr 0 0) .nil)) (Rs1n p.l p.com p.sh p.c0 r.v0) 5) true
theorem fin_rg1 {p : A_rg1} {K : KC} (hK : out_rg1 p K = true) (r : R_rg1) (h : po_rg1 p r) : K 0 (.cons 2 (.sl 1 0 1 (.ex 1)) (.cons 0 (.ptr 0 0) .nil)) (Rs1n p.l p.com p.sh p.c0 r.v0) 5 = true := ifB_use h (allB_ok hK r)
noncomputable def sp_rg1 (p : A_rg1) (K : KC) : Bool := out_rg1 p K
noncomputable def lp_settle1 : LpF := fun j S M nx K => (Bool.rec (false) (exB fun p : A_rg1 => must (prB ((S, M, nx) = I_rg1 p)) (sp_rg1 p K)) (Nat.beq j 0))
def bd_rg1 : XC := (.aft (.seq (g_ 5 [p_ 0 24 (m_ 0), p_ 1 25 (n_ 24), p_ 2 26 (f_ 9 25), r_ 3 27 (l_ 26), e_ 4 28 (.rng (.t 27))]) (.block 2 (.loop [0, 2, 4, 28, 29, 30, 31, 32, 33, 34, 35, 36, 37, 39, 40, 41, 42, 43, 44, 45, 46, 47, 48, 49, 50, 51, 52, 53, 54, 55, 56, 57] (.seq (g_ 2 [e_ 0 29 (.nxt (.t 28)), p_ 1 30 (.ext 0 (.t 29))]) (.seq (.cond (.t 30) .skip (.exit 2)) (.block 3 (.seq (g_ 3 [r_ 0 31 (.ent (.t 28)), p_ 1 32 (.ext 1 (.t 31)), p_ 2 4 (m_ 32)]) (g_ 5 [p_ 0 33 (m_ 2), p_ 1 34 (m_ 4), e_ 2 35 (.bsl 3 1 1 [.int 0 (.ofNat 0)] [(0, 1)] [.t 34]), e_ 3 36 (.app 3 1 8 (.t 33) (.t 35)), p_ 4 2 (m_ 36)])))))))) [(0, [.can 1 [0, 2]])])
theorem vb_rg1 (p : A_rg1) (K : KC) (hK : out_rg1 p K = true) : (codeX (cfT nat_sort5) lp_settle1 600 bd_rg1 (I_rg1 p).1 (I_rg1 p).2.1 (I_rg1 p).2.2 K) = true := by
 refine Eq.trans (b := (must (K 0 (.cons 2 (.sl 1 0 1 (.ex 1)) (.cons 0 (.ptr 0 0) .nil)) (Rs1n p.l p.com p.sh p.c0 p.c0) 5) (true))) (by kernel_rfl) ?_
 obtain ⟨l, com, sh, c0⟩ := p; dsimp only; repeat' (first | exact fin_rg1 hK ⟨_⟩ (by dsimp only [po_rg1]; intro v; simp only [List.count_cons, List.count_nil] <;> omega) | refine must_mk ?_ ?_ | refine mI rfl ?_ | exact rfl)
theorem lo_rg1 : LpOk Try.prog 58 1 lp_settle1 false 0 bd_rg1 := by
 refine sp_of (lf := 600) tb_mix (cfT_ok nat_sort5_ok) (by rfl) (fun b j x h => by cases h) (fun S M nx K h => ?_)
 obtain ⟨p, h⟩ := exB_ok h
 obtain ⟨e, h9⟩ := mustP_ok h
 clear h
 have e1 : S = (I_rg1 p).1 := congrArg Prod.fst e
 have e2 : M = (I_rg1 p).2.1 := congrArg (fun x => x.2.1) e
 have e3 : nx = (I_rg1 p).2.2 := congrArg (fun x => x.2.2) e
 subst e1; subst e2; subst e3
 exact vb_rg1 p K h9
structure A_settle1 where
 l : List Int
 com : Int
 sh : Prop
 c0 : Int
structure R_settle1 where
 com : Int
def po_settle1 (p : A_settle1) (r : R_settle1) : Prop := comR 1 p.com r.com [(p.l.length : Int)]
noncomputable def I_settle1 (p : A_settle1) : IE := ([.ptr 0 0], (Ro1n p.l p.com p.sh p.c0), 4)
noncomputable def out_settle1 (p : A_settle1) (K : KE) : Bool := allB fun r : R_settle1 => iP (po_settle1 p r) (K (.tup []) (Ro1n p.l r.com p.sh (p.l.length : Int)) 4) true
theorem fin_settle1 {p : A_settle1} {K : KE} (hK : out_settle1 p K = true) (r : R_settle1) (h : po_settle1 p r) : K (.tup []) (Ro1n p.l r.com p.sh (p.l.length : Int)) 4 = true := ifB_use h (allB_ok hK r)
theorem vf_settle1 (p : A_settle1) (K : KE) (hK : out_settle1 p K = true) : (funE 1 (cfT nat_sort5) lp_settle1 600 ft_settle1 (I_settle1 p).1 (I_settle1 p).2.1 (I_settle1 p).2.2 K) = true := by
 refine Eq.trans (b := (exB fun p1 : A_rg1 => mP (((.cons 2 (.sl 1 0 0 (.ex 1)) (.cons 0 (.ptr 0 0) .nil)), (.node (.node (.node .leaf (some (.prow 45 18 Int p.l encK)) .leaf) (some (.blk false 3 1 [[.int 0 (.ofNat 0)]])) .leaf) (some (.blk false 67 10 [[.int 1 (.ofNat 0), .int 3 (.ofNat 1), .sl 2 0 1 (.rest 0), .int 1 (.ofNat 0), .int 2 (.ofNat 1), .sy (.prow 3 p.l.length), .int 0 (.ofNat 0), .sy (.int 0 p.com), .sy (.bool p.sh), .map 4]])) (.node (.node .leaf (some (.map [(.agg [.int 1 (.ofNat 0), .int 2 (.ofNat 1)], .sy (.int 0 (p.l.length : Int)), 0)] 1)) .leaf) (some (.blk true 31 2 [[.int 1 (.ofNat 0), .int 2 (.ofNat 1)]])) .leaf)), 5) = I_rg1 p1) (allB fun r1 : R_rg1 => iP (po_rg1 p1 r1) (exB fun p2 : A_sort1 => mP (([.sl 0 0 1 (.ex 1)], (Sb1 r1.v0), 1) = I_sort1 p2) (allB fun r2 : R_sort1 => iP (po_sort1 p2 r2) (mP (((.int 0 p1.com) : SY) = (.int 0 p1.com)) (K (.tup []) (Ro1n p1.l (max p1.com r2.y0) p1.sh p1.c0) 4)) true)) true))) (by kernel_rfl) ?_
 refine callR (⟨p.l, p.com, p.sh, (p.l.length : Int)⟩ : A_rg1) rfl fun r1 hi1 => ?_
 dsimp only [po_rg1] at hi1
 refine callR (⟨r1.v0⟩ : A_sort1) rfl fun r2 hi2 => ?_
 dsimp only [po_sort1] at hi2
 refine mI (rfl) ?_
 exact fin_settle1 hK ⟨max p.com r2.y0⟩ (by dsimp only [po_settle1] <;> (have s0 := hi2; refine ⟨r2.y0, rfl, ?_⟩; rw [fcount (fun v => ((s0 v).trans (hi1 v)).symm)]; exact fsuf (a := []) (b := [r2.y0]) (by intro x hx; simp only [List.mem_cons, List.not_mem_nil, or_false] at hx; simp only [decide_eq_true_eq]; omega)))
noncomputable def ec_settle1 : SpecE := tstE (elB 1 1) (esOf I_settle1 out_settle1) (fun _ _ _ _ => false)
theorem nc_settle1 : NatE Try.prog 37 1 ec_settle1 := tstE_ok (natE_said (f := 37) (k := 1) (lp := lp_settle1) (lf := 600) tb_mix (cfT_ok nat_sort5_ok) ft_settle1_ok (by rfl) (fun b j x h => (mem_step lo_rg1 (fun h => (by cases h)) h)) fun p K h => vf_settle1 p K h) natE_no
noncomputable def nat_settle1 := natC nat_sort5 1 ec_settle1 37 [(0, 4)]
theorem nat_settle1_ok : NatsOk Try.prog nat_settle1 := natC_ok nc_settle1 nat_sort5_ok
def ft_settle2 : XF := ft_settle1
theorem ft_settle2_ok : chkF Try.prog 37 ft_settle2 = true := ft_settle1_ok
structure A_rg2 where
 l : List Int
 com : Int
 sh : Prop
 c0 : Int
 c1 : Int
structure R_rg2 where
 v0 : Int
 v1 : Int
def po_rg2 (p : A_rg2) (r : R_rg2) : Prop := ∀ v : Int, [r.v0, r.v1].count v = [p.c0, p.c1].count v
noncomputable def I_rg2 (p : A_rg2) : IL := ((.cons 2 (.sl 1 0 0 (.ex 2)) (.cons 0 (.ptr 0 0) .nil)), (.node (.node (.node .leaf (some (.prow 45 18 Int p.l encK)) .leaf) (some (.blk false 3 1 [[.int 0 (.ofNat 0)], [.int 0 (.ofNat 0)]])) .leaf) (some (.blk false 67 10 [[.int 1 (.ofNat 0), .int 3 (.ofNat 1), .sl 2 0 2 (.rest 0), .int 1 (.ofNat 0), .int 2 (.ofNat 1), .sy (.prow 3 p.l.length), .int 0 (.ofNat 0), .sy (.int 0 p.com), .sy (.bool p.sh), .map 4]])) (.node (.node .leaf (some (.map [(.agg [.int 1 (.ofNat 0), .int 2 (.ofNat 1)], .sy (.int 0 p.c0), 0), (.agg [.int 1 (.ofNat 1), .int 2 (.ofNat 1)], .sy (.int 0 p.c1), 1)] 2)) .leaf) (some (.blk true 31 2 [[.int 1 (.ofNat 0), .int 2 (.ofNat 1)], [.int 1 (.ofNat 1), .int 2 (.ofNat 1)]])) .leaf)), 5)
noncomputable def out_rg2 (p : A_rg2) (K : KC) : Bool := allB fun r : R_rg2 => iP (po_rg2 p r) (K 0 (.cons 2 (.sl 1 0 2 (.ex 2)) (.cons 0 (.ptr 0 0) .nil)) (Rs2n p.l p.com p.sh p.c0 p.c1 r.v0 r.v1) 5) true
theorem fin_rg2 {p : A_rg2} {K : KC} (hK : out_rg2 p K = true) (r : R_rg2) (h : po_rg2 p r) : K 0 (.cons 2 (.sl 1 0 2 (.ex 2)) (.cons 0 (.ptr 0 0) .nil)) (Rs2n p.l p.com p.sh p.c0 p.c1 r.v0 r.v1) 5 = true := ifB_use h (allB_ok hK r)
noncomputable def sp_rg2 (p : A_rg2) (K : KC) : Bool := out_rg2 p K
noncomputable def lp_settle2 : LpF := fun j S M nx K => (Bool.rec (false) (exB fun p : A_rg2 => must (prB ((S, M, nx) = I_rg2 p)) (sp_rg2 p K)) (Nat.beq j 0))
def bd_rg2 : XC := bd_rg1
theorem vb_rg2 (p : A_rg2) (K : KC) (hK : out_rg2 p K = true) : (codeX (cfT nat_settle1) lp_settle2 600 bd_rg2 (I_rg2 p).1 (I_rg2 p).2.1 (I_rg2 p).2.2 K) = true := by
 refine Eq.trans (b := (must (must (K 0 (.cons 2 (.sl 1 0 2 (.ex 2)) (.cons 0 (.ptr 0 0) .nil)) (Rs2n p.l p.com p.sh p.c0 p.c1 p.c0 p.c1) 5) (true)) (must (must (K 0 (.cons 2 (.sl 1 0 2 (.ex 2)) (.cons 0 (.ptr 0 0) .nil)) (Rs2n p.l p.com p.sh p.c0 p.c1 p.c1 p.c0) 5) (true)) (true)))) (by kernel_rfl) ?_
 obtain ⟨l, com, sh, c0, c1⟩ := p; dsimp only; repeat' (first | exact fin_rg2 hK ⟨_, _⟩ (by dsimp only [po_rg2]; intro v; simp only [List.count_cons, List.count_nil] <;> omega) | refine must_mk ?_ ?_ | refine mI rfl ?_ | exact rfl)
theorem lo_rg2 : LpOk Try.prog 58 1 lp_settle2 false 0 bd_rg2 := by
 refine sp_of (lf := 600) tb_mix (cfT_ok nat_settle1_ok) (by rfl) (fun b j x h => by cases h) (fun S M nx K h => ?_)
 obtain ⟨p, h⟩ := exB_ok h
 obtain ⟨e, h9⟩ := mustP_ok h
 clear h
 have e1 : S = (I_rg2 p).1 := congrArg Prod.fst e
 have e2 : M = (I_rg2 p).2.1 := congrArg (fun x => x.2.1) e
 have e3 : nx = (I_rg2 p).2.2 := congrArg (fun x => x.2.2) e
 subst e1; subst e2; subst e3
 exact vb_rg2 p K h9
structure A_settle2 where
 l : List Int
 com : Int
 sh : Prop
 c0 : Int
 c1 : Int
structure R_settle2 where
 com : Int
def po_settle2 (p : A_settle2) (r : R_settle2) : Prop := comR 2 p.com r.com [(p.l.length : Int), p.c1]
noncomputable def I_settle2 (p : A_settle2) : IE := ([.ptr 0 0], (Ro2n p.l p.com p.sh p.c0 p.c1), 4)
noncomputable def out_settle2 (p : A_settle2) (K : KE) : Bool := allB fun r : R_settle2 => iP (po_settle2 p r) (K (.tup []) (Ro2n p.l r.com p.sh (p.l.length : Int) p.c1) 4) true
theorem fin_settle2 {p : A_settle2} {K : KE} (hK : out_settle2 p K = true) (r : R_settle2) (h : po_settle2 p r) : K (.tup []) (Ro2n p.l r.com p.sh (p.l.length : Int) p.c1) 4 = true := ifB_use h (allB_ok hK r)
theorem vf_settle2 (p : A_settle2) (K : KE) (hK : out_settle2 p K = true) : (funE 1 (cfT nat_settle1) lp_settle2 600 ft_settle2 (I_settle2 p).1 (I_settle2 p).2.1 (I_settle2 p).2.2 K) = true := by
 refine Eq.trans (b := (exB fun p1 : A_rg2 => mP (((.cons 2 (.sl 1 0 0 (.ex 2)) (.cons 0 (.ptr 0 0) .nil)), (.node (.node (.node .leaf (some (.prow 45 18 Int p.l encK)) .leaf) (some (.blk false 3 1 [[.int 0 (.ofNat 0)], [.int 0 (.ofNat 0)]])) .leaf) (some (.blk false 67 10 [[.int 1 (.ofNat 0), .int 3 (.ofNat 1), .sl 2 0 2 (.rest 0), .int 1 (.ofNat 0), .int 2 (.ofNat 1), .sy (.prow 3 p.l.length), .int 0 (.ofNat 0), .sy (.int 0 p.com), .sy (.bool p.sh), .map 4]])) (.node (.node .leaf (some (.map [(.agg [.int 1 (.ofNat 0), .int 2 (.ofNat 1)], .sy (.int 0 (p.l.length : Int)), 0), (.agg [.int 1 (.ofNat 1), .int 2 (.ofNat 1)], .sy (.int 0 p.c1), 1)] 2)) .leaf) (some (.blk true 31 2 [[.int 1 (.ofNat 0), .int 2 (.ofNat 1)], [.int 1 (.ofNat 1), .int 2 (.ofNat 1)]])) .leaf)), 5) = I_rg2 p1) (allB fun r1 : R_rg2 => iP (po_rg2 p1 r1) (exB fun p2 : A_sort2 => mP (([.sl 0 0 2 (.ex 2)], (Sb2 r1.v0 r1.v1), 1) = I_sort2 p2) (allB fun r2 : R_sort2 => iP (po_sort2 p2 r2) (mP (((.int 0 p1.com) : SY) = (.int 0 p1.com)) (K (.tup []) (Ro2n p1.l (max p1.com r2.y0) p1.sh p1.c0 p1.c1) 4)) true)) true))) (by kernel_rfl) ?_
 refine callR (⟨p.l, p.com, p.sh, (p.l.length : Int), p.c1⟩ : A_rg2) rfl fun r1 hi1 => ?_
 dsimp only [po_rg2] at hi1
 refine callR (⟨r1.v0, r1.v1⟩ : A_sort2) rfl fun r2 hi2 => ?_
 dsimp only [po_sort2] at hi2
 refine mI (rfl) ?_
 exact fin_settle2 hK ⟨max p.com r2.y0⟩ (by dsimp only [po_settle2] <;> (obtain ⟨s0, s1⟩ := hi2; refine ⟨r2.y0, rfl, ?_⟩; rw [fcount (fun v => ((s1 v).trans (hi1 v)).symm)]; exact fsuf (a := []) (b := [r2.y0, r2.y1]) (by intro x hx; simp only [List.mem_cons, List.not_mem_nil, or_false] at hx; simp only [decide_eq_true_eq]; omega)))
noncomputable def ec_settle2 : SpecE := tstE (elB 1 2) (esOf I_settle2 out_settle2) ec_settle1
theorem nc_settle2 : NatE Try.prog 37 1 ec_settle2 := tstE_ok (natE_said (f := 37) (k := 1) (lp := lp_settle2) (lf := 600) tb_mix (cfT_ok nat_settle1_ok) ft_settle2_ok (by rfl) (fun b j x h => (mem_step lo_rg2 (fun h => (by cases h)) h)) fun p K h => vf_settle2 p K h) nc_settle1
noncomputable def nat_settle2 := natC nat_settle1 1 ec_settle2 37 [(0, 4)]
theorem nat_settle2_ok : NatsOk Try.prog nat_settle2 := natC_ok nc_settle2 nat_settle1_ok
def ft_settle3 : XF := ft_settle1
theorem ft_settle3_ok : chkF Try.prog 37 ft_settle3 = true := ft_settle1_ok
structure A_rg3 where
 l : List Int
 com : Int
 sh : Prop
 c0 : Int
 c1 : Int
 c2 : Int
structure R_rg3 where
 v0 : Int
 v1 : Int
 v2 : Int
def po_rg3 (p : A_rg3) (r : R_rg3) : Prop := ∀ v : Int, [r.v0, r.v1, r.v2].count v = [p.c0, p.c1, p.c2].count v
noncomputable def I_rg3 (p : A_rg3) : IL := ((.cons 2 (.sl 1 0 0 (.ex 3)) (.cons 0 (.ptr 0 0) .nil)), (.node (.node (.node .leaf (some (.prow 45 18 Int p.l encK)) .leaf) (some (.blk false 3 1 [[.int 0 (.ofNat 0)], [.int 0 (.ofNat 0)], [.int 0 (.ofNat 0)]])) .leaf) (some (.blk false 67 10 [[.int 1 (.ofNat 0), .int 3 (.ofNat 1), .sl 2 0 3 (.rest 0), .int 1 (.ofNat 0), .int 2 (.ofNat 1), .sy (.prow 3 p.l.length), .int 0 (.ofNat 0), .sy (.int 0 p.com), .sy (.bool p.sh), .map 4]])) (.node (.node .leaf (some (.map [(.agg [.int 1 (.ofNat 0), .int 2 (.ofNat 1)], .sy (.int 0 p.c0), 0), (.agg [.int 1 (.ofNat 1), .int 2 (.ofNat 1)], .sy (.int 0 p.c1), 1), (.agg [.int 1 (.ofNat 2), .int 2 (.ofNat 1)], .sy (.int 0 p.c2), 2)] 3)) .leaf) (some (.blk true 31 2 [[.int 1 (.ofNat 0), .int 2 (.ofNat 1)], [.int 1 (.ofNat 1), .int 2 (.ofNat 1)], [.int 1 (.ofNat 2), .int 2 (.ofNat 1)]])) .leaf)), 5)
noncomputable def out_rg3 (p : A_rg3) (K : KC) : Bool := allB fun r : R_rg3 => iP (po_rg3 p r) (K 0 (.cons 2 (.sl 1 0 3 (.ex 3)) (.cons 0 (.ptr 0 0) .nil)) (Rs3n p.l p.com p.sh p.c0 p.c1 p.c2 r.v0 r.v1 r.v2) 5) true
theorem fin_rg3 {p : A_rg3} {K : KC} (hK : out_rg3 p K = true) (r : R_rg3) (h : po_rg3 p r) : K 0 (.cons 2 (.sl 1 0 3 (.ex 3)) (.cons 0 (.ptr 0 0) .nil)) (Rs3n p.l p.com p.sh p.c0 p.c1 p.c2 r.v0 r.v1 r.v2) 5 = true := ifB_use h (allB_ok hK r)
noncomputable def sp_rg3 (p : A_rg3) (K : KC) : Bool := out_rg3 p K
noncomputable def lp_settle3 : LpF := fun j S M nx K => (Bool.rec (false) (exB fun p : A_rg3 => must (prB ((S, M, nx) = I_rg3 p)) (sp_rg3 p K)) (Nat.beq j 0))
def bd_rg3 : XC := bd_rg1
theorem vb_rg3 (p : A_rg3) (K : KC) (hK : out_rg3 p K = true) : (codeX (cfT nat_settle2) lp_settle3 600 bd_rg3 (I_rg3 p).1 (I_rg3 p).2.1 (I_rg3 p).2.2 K) = true := by
 refine Eq.trans (b := (must (must (must (K 0 (.cons 2 (.sl 1 0 3 (.ex 3)) (.cons 0 (.ptr 0 0) .nil)) (Rs3n p.l p.com p.sh p.c0 p.c1 p.c2 p.c0 p.c1 p.c2) 5) (true)) (must (must (K 0 (.cons 2 (.sl 1 0 3 (.ex 3)) (.cons 0 (.ptr 0 0) .nil)) (Rs3n p.l p.com p.sh p.c0 p.c1 p.c2 p.c0 p.c2 p.c1) 5) (true)) (true))) (must (must (must (K 0 (.cons 2 (.sl 1 0 3 (.ex 3)) (.cons 0 (.ptr 0 0) .nil)) (Rs3n p.l p.com p.sh p.c0 p.c1 p.c2 p.c1 p.c0 p.c2) 5) (true)) (must (must (K 0 (.cons 2 (.sl 1 0 3 (.ex 3)) (.cons 0 (.ptr 0 0) .nil)) (Rs3n p.l p.com p.sh p.c0 p.c1 p.c2 p.c1 p.c2 p.c0) 5) (true)) (true))) (must (must (must (K 0 (.cons 2 (.sl 1 0 3 (.ex 3)) (.cons 0 (.ptr 0 0) .nil)) (Rs3n p.l p.com p.sh p.c0 p.c1 p.c2 p.c2 p.c0 p.c1) 5) (true)) (must (must (K 0 (.cons 2 (.sl 1 0 3 (.ex 3)) (.cons 0 (.ptr 0 0) .nil)) (Rs3n p.l p.com p.sh p.c0 p.c1 p.c2 p.c2 p.c1 p.c0) 5) (true)) (true))) (true))))) (by kernel_rfl) ?_
 obtain ⟨l, com, sh, c0, c1, c2⟩ := p; dsimp only; repeat' (first | exact fin_rg3 hK ⟨_, _, _⟩ (by dsimp only [po_rg3]; intro v; simp only [List.count_cons, List.count_nil] <;> omega) | refine must_mk ?_ ?_ | refine mI rfl ?_ | exact rfl)
theorem lo_rg3 : LpOk Try.prog 58 1 lp_settle3 false 0 bd_rg3 := by
 refine sp_of (lf := 600) tb_mix (cfT_ok nat_settle2_ok) (by rfl) (fun b j x h => by cases h) (fun S M nx K h => ?_)
 obtain ⟨p, h⟩ := exB_ok h
 obtain ⟨e, h9⟩ := mustP_ok h
 clear h
 have e1 : S = (I_rg3 p).1 := congrArg Prod.fst e
 have e2 : M = (I_rg3 p).2.1 := congrArg (fun x => x.2.1) e
 have e3 : nx = (I_rg3 p).2.2 := congrArg (fun x => x.2.2) e
 subst e1; subst e2; subst e3
 exact vb_rg3 p K h9
structure A_settle3 where
 l : List Int
 com : Int
 sh : Prop
 c0 : Int
 c1 : Int
 c2 : Int
structure R_settle3 where
 com : Int
def po_settle3 (p : A_settle3) (r : R_settle3) : Prop := comR 2 p.com r.com [(p.l.length : Int), p.c1, p.c2]
noncomputable def I_settle3 (p : A_settle3) : IE := ([.ptr 0 0], (Ro3n p.l p.com p.sh p.c0 p.c1 p.c2), 4)
noncomputable def out_settle3 (p : A_settle3) (K : KE) : Bool := allB fun r : R_settle3 => iP (po_settle3 p r) (K (.tup []) (Ro3n p.l r.com p.sh (p.l.length : Int) p.c1 p.c2) 4) true
theorem fin_settle3 {p : A_settle3} {K : KE} (hK : out_settle3 p K = true) (r : R_settle3) (h : po_settle3 p r) : K (.tup []) (Ro3n p.l r.com p.sh (p.l.length : Int) p.c1 p.c2) 4 = true := ifB_use h (allB_ok hK r)
theorem vf_settle3 (p : A_settle3) (K : KE) (hK : out_settle3 p K = true) : (funE 1 (cfT nat_settle2) lp_settle3 600 ft_settle3 (I_settle3 p).1 (I_settle3 p).2.1 (I_settle3 p).2.2 K) = true := by
 refine Eq.trans (b := (exB fun p1 : A_rg3 => mP (((.cons 2 (.sl 1 0 0 (.ex 3)) (.cons 0 (.ptr 0 0) .nil)), (.node (.node (.node .leaf (some (.prow 45 18 Int p.l encK)) .leaf) (some (.blk false 3 1 [[.int 0 (.ofNat 0)], [.int 0 (.ofNat 0)], [.int 0 (.ofNat 0)]])) .leaf) (some (.blk false 67 10 [[.int 1 (.ofNat 0), .int 3 (.ofNat 1), .sl 2 0 3 (.rest 0), .int 1 (.ofNat 0), .int 2 (.ofNat 1), .sy (.prow 3 p.l.length), .int 0 (.ofNat 0), .sy (.int 0 p.com), .sy (.bool p.sh), .map 4]])) (.node (.node .leaf (some (.map [(.agg [.int 1 (.ofNat 0), .int 2 (.ofNat 1)], .sy (.int 0 (p.l.length : Int)), 0), (.agg [.int 1 (.ofNat 1), .int 2 (.ofNat 1)], .sy (.int 0 p.c1), 1), (.agg [.int 1 (.ofNat 2), .int 2 (.ofNat 1)], .sy (.int 0 p.c2), 2)] 3)) .leaf) (some (.blk true 31 2 [[.int 1 (.ofNat 0), .int 2 (.ofNat 1)], [.int 1 (.ofNat 1), .int 2 (.ofNat 1)], [.int 1 (.ofNat 2), .int 2 (.ofNat 1)]])) .leaf)), 5) = I_rg3 p1) (allB fun r1 : R_rg3 => iP (po_rg3 p1 r1) (exB fun p2 : A_sort3 => mP (([.sl 0 0 3 (.ex 3)], (Sb3 r1.v0 r1.v1 r1.v2), 1) = I_sort3 p2) (allB fun r2 : R_sort3 => iP (po_sort3 p2 r2) (mP (((.int 0 p1.com) : SY) = (.int 0 p1.com)) (K (.tup []) (Ro3n p1.l (max p1.com r2.y1) p1.sh p1.c0 p1.c1 p1.c2) 4)) true)) true))) (by kernel_rfl) ?_
 refine callR (⟨p.l, p.com, p.sh, (p.l.length : Int), p.c1, p.c2⟩ : A_rg3) rfl fun r1 hi1 => ?_
 dsimp only [po_rg3] at hi1
 refine callR (⟨r1.v0, r1.v1, r1.v2⟩ : A_sort3) rfl fun r2 hi2 => ?_
 dsimp only [po_sort3] at hi2
 refine mI (rfl) ?_
 exact fin_settle3 hK ⟨max p.com r2.y1⟩ (by dsimp only [po_settle3] <;> (obtain ⟨s0, s1, s2⟩ := hi2; refine ⟨r2.y1, rfl, ?_⟩; rw [fcount (fun v => ((s2 v).trans (hi1 v)).symm)]; exact fsuf (a := [r2.y0]) (b := [r2.y1, r2.y2]) (by intro x hx; simp only [List.mem_cons, List.not_mem_nil, or_false] at hx; simp only [decide_eq_true_eq]; omega)))
noncomputable def ec_settle3 : SpecE := tstE (elB 1 3) (esOf I_settle3 out_settle3) ec_settle2
theorem nc_settle3 : NatE Try.prog 37 1 ec_settle3 := tstE_ok (natE_said (f := 37) (k := 1) (lp := lp_settle3) (lf := 600) tb_mix (cfT_ok nat_settle2_ok) ft_settle3_ok (by rfl) (fun b j x h => (mem_step lo_rg3 (fun h => (by cases h)) h)) fun p K h => vf_settle3 p K h) nc_settle2
noncomputable def nat_settle3 := natC nat_settle2 1 ec_settle3 37 [(0, 4)]
theorem nat_settle3_ok : NatsOk Try.prog nat_settle3 := natC_ok nc_settle3 nat_settle2_ok
def ft_settle4 : XF := ft_settle1
theorem ft_settle4_ok : chkF Try.prog 37 ft_settle4 = true := ft_settle1_ok
structure A_rg4 where
 l : List Int
 com : Int
 sh : Prop
 c0 : Int
 c1 : Int
 c2 : Int
 c3 : Int
structure R_rg4 where
 v0 : Int
 v1 : Int
 v2 : Int
 v3 : Int
def po_rg4 (p : A_rg4) (r : R_rg4) : Prop := ∀ v : Int, [r.v0, r.v1, r.v2, r.v3].count v = [p.c0, p.c1, p.c2, p.c3].count v
noncomputable def I_rg4 (p : A_rg4) : IL := ((.cons 2 (.sl 1 0 0 (.ex 4)) (.cons 0 (.ptr 0 0) .nil)), (.node (.node (.node .leaf (some (.prow 45 18 Int p.l encK)) .leaf) (some (.blk false 3 1 [[.int 0 (.ofNat 0)], [.int 0 (.ofNat 0)], [.int 0 (.ofNat 0)], [.int 0 (.ofNat 0)]])) .leaf) (some (.blk false 67 10 [[.int 1 (.ofNat 0), .int 3 (.ofNat 1), .sl 2 0 4 (.rest 0), .int 1 (.ofNat 0), .int 2 (.ofNat 1), .sy (.prow 3 p.l.length), .int 0 (.ofNat 0), .sy (.int 0 p.com), .sy (.bool p.sh), .map 4]])) (.node (.node .leaf (some (.map [(.agg [.int 1 (.ofNat 0), .int 2 (.ofNat 1)], .sy (.int 0 p.c0), 0), (.agg [.int 1 (.ofNat 1), .int 2 (.ofNat 1)], .sy (.int 0 p.c1), 1), (.agg [.int 1 (.ofNat 2), .int 2 (.ofNat 1)], .sy (.int 0 p.c2), 2), (.agg [.int 1 (.ofNat 3), .int 2 (.ofNat 1)], .sy (.int 0 p.c3), 3)] 4)) .leaf) (some (.blk true 31 2 [[.int 1 (.ofNat 0), .int 2 (.ofNat 1)], [.int 1 (.ofNat 1), .int 2 (.ofNat 1)], [.int 1 (.ofNat 2), .int 2 (.ofNat 1)], [.int 1 (.ofNat 3), .int 2 (.ofNat 1)]])) .leaf)), 5)
noncomputable def out_rg4 (p : A_rg4) (K : KC) : Bool := allB fun r : R_rg4 => iP (po_rg4 p r) (K 0 (.cons 2 (.sl 1 0 4 (.ex 4)) (.cons 0 (.ptr 0 0) .nil)) (Rs4n p.l p.com p.sh p.c0 p.c1 p.c2 p.c3 r.v0 r.v1 r.v2 r.v3) 5) true
theorem fin_rg4 {p : A_rg4} {K : KC} (hK : out_rg4 p K = true) (r : R_rg4) (h : po_rg4 p r) : K 0 (.cons 2 (.sl 1 0 4 (.ex 4)) (.cons 0 (.ptr 0 0) .nil)) (Rs4n p.l p.com p.sh p.c0 p.c1 p.c2 p.c3 r.v0 r.v1 r.v2 r.v3) 5 = true := ifB_use h (allB_ok hK r)
noncomputable def sp_rg4 (p : A_rg4) (K : KC) : Bool := out_rg4 p K
noncomputable def lp_settle4 : LpF := fun j S M nx K => (Bool.rec (false) (exB fun p : A_rg4 => must (prB ((S, M, nx) = I_rg4 p)) (sp_rg4 p K)) (Nat.beq j 0))
def bd_rg4 : XC := bd_rg1
theorem vb_rg4 (p : A_rg4) (K : KC) (hK : out_rg4 p K = true) : (codeX (cfT nat_settle3) lp_settle4 600 bd_rg4 (I_rg4 p).1 (I_rg4 p).2.1 (I_rg4 p).2.2 K) = true := by
 refine Eq.trans (b := (must (must (must (must (K 0 (.cons 2 (.sl 1 0 4 (.ex 4)) (.cons 0 (.ptr 0 0) .nil)) (Rs4n p.l p.com p.sh p.c0 p.c1 p.c2 p.c3 p.c0 p.c1 p.c2 p.c3) 5) (true)) (must (must (K 0 (.cons 2 (.sl 1 0 4 (.ex 4)) (.cons 0 (.ptr 0 0) .nil)) (Rs4n p.l p.com p.sh p.c0 p.c1 p.c2 p.c3 p.c0 p.c1 p.c3 p.c2) 5) (true)) (true))) (must (must (must (K 0 (.cons 2 (.sl 1 0 4 (.ex 4)) (.cons 0 (.ptr 0 0) .nil)) (Rs4n p.l p.com p.sh p.c0 p.c1 p.c2 p.c3 p.c0 p.c2 p.c1 p.c3) 5) (true)) (must (must (K 0 (.cons 2 (.sl 1 0 4 (.ex 4)) (.cons 0 (.ptr 0 0) .nil)) (Rs4n p.l p.com p.sh p.c0 p.c1 p.c2 p.c3 p.c0 p.c2 p.c3 p.c1) 5) (true)) (true))) (must (must (must (K 0 (.cons 2 (.sl 1 0 4 (.ex 4)) (.cons 0 (.ptr 0 0) .nil)) (Rs4n p.l p.com p.sh p.c0 p.c1 p.c2 p.c3 p.c0 p.c3 p.c1 p.c2) 5) (true)) (must (must (K 0 (.cons 2 (.sl 1 0 4 (.ex 4)) (.cons 0 (.ptr 0 0) .nil)) (Rs4n p.l p.com p.sh p.c0 p.c1 p.c2 p.c3 p.c0 p.c3 p.c2 p.c1) 5) (true)) (true))) (true)))) (must (must (must (must (K 0 (.cons 2 (.sl 1 0 4 (.ex 4)) (.cons 0 (.ptr 0 0) .nil)) (Rs4n p.l p.com p.sh p.c0 p.c1 p.c2 p.c3 p.c1 p.c0 p.c2 p.c3) 5) (true)) (must (must (K 0 (.cons 2 (.sl 1 0 4 (.ex 4)) (.cons 0 (.ptr 0 0) .nil)) (Rs4n p.l p.com p.sh p.c0 p.c1 p.c2 p.c3 p.c1 p.c0 p.c3 p.c2) 5) (true)) (true))) (must (must (must (K 0 (.cons 2 (.sl 1 0 4 (.ex 4)) (.cons 0 (.ptr 0 0) .nil)) (Rs4n p.l p.com p.sh p.c0 p.c1 p.c2 p.c3 p.c1 p.c2 p.c0 p.c3) 5) (true)) (must (must (K 0 (.cons 2 (.sl 1 0 4 (.ex 4)) (.cons 0 (.ptr 0 0) .nil)) (Rs4n p.l p.com p.sh p.c0 p.c1 p.c2 p.c3 p.c1 p.c2 p.c3 p.c0) 5) (true)) (true))) (must (must (must (K 0 (.cons 2 (.sl 1 0 4 (.ex 4)) (.cons 0 (.ptr 0 0) .nil)) (Rs4n p.l p.com p.sh p.c0 p.c1 p.c2 p.c3 p.c1 p.c3 p.c0 p.c2) 5) (true)) (must (must (K 0 (.cons 2 (.sl 1 0 4 (.ex 4)) (.cons 0 (.ptr 0 0) .nil)) (Rs4n p.l p.com p.sh p.c0 p.c1 p.c2 p.c3 p.c1 p.c3 p.c2 p.c0) 5) (true)) (true))) (true)))) (must (must (must (must (K 0 (.cons 2 (.sl 1 0 4 (.ex 4)) (.cons 0 (.ptr 0 0) .nil)) (Rs4n p.l p.com p.sh p.c0 p.c1 p.c2 p.c3 p.c2 p.c0 p.c1 p.c3) 5) (true)) (must (must (K 0 (.cons 2 (.sl 1 0 4 (.ex 4)) (.cons 0 (.ptr 0 0) .nil)) (Rs4n p.l p.com p.sh p.c0 p.c1 p.c2 p.c3 p.c2 p.c0 p.c3 p.c1) 5) (true)) (true))) (must (must (must (K 0 (.cons 2 (.sl 1 0 4 (.ex 4)) (.cons 0 (.ptr 0 0) .nil)) (Rs4n p.l p.com p.sh p.c0 p.c1 p.c2 p.c3 p.c2 p.c1 p.c0 p.c3) 5) (true)) (must (must (K 0 (.cons 2 (.sl 1 0 4 (.ex 4)) (.cons 0 (.ptr 0 0) .nil)) (Rs4n p.l p.com p.sh p.c0 p.c1 p.c2 p.c3 p.c2 p.c1 p.c3 p.c0) 5) (true)) (true))) (must (must (must (K 0 (.cons 2 (.sl 1 0 4 (.ex 4)) (.cons 0 (.ptr 0 0) .nil)) (Rs4n p.l p.com p.sh p.c0 p.c1 p.c2 p.c3 p.c2 p.c3 p.c0 p.c1) 5) (true)) (must (must (K 0 (.cons 2 (.sl 1 0 4 (.ex 4)) (.cons 0 (.ptr 0 0) .nil)) (Rs4n p.l p.com p.sh p.c0 p.c1 p.c2 p.c3 p.c2 p.c3 p.c1 p.c0) 5) (true)) (true))) (true)))) (must (must (must (must (K 0 (.cons 2 (.sl 1 0 4 (.ex 4)) (.cons 0 (.ptr 0 0) .nil)) (Rs4n p.l p.com p.sh p.c0 p.c1 p.c2 p.c3 p.c3 p.c0 p.c1 p.c2) 5) (true)) (must (must (K 0 (.cons 2 (.sl 1 0 4 (.ex 4)) (.cons 0 (.ptr 0 0) .nil)) (Rs4n p.l p.com p.sh p.c0 p.c1 p.c2 p.c3 p.c3 p.c0 p.c2 p.c1) 5) (true)) (true))) (must (must (must (K 0 (.cons 2 (.sl 1 0 4 (.ex 4)) (.cons 0 (.ptr 0 0) .nil)) (Rs4n p.l p.com p.sh p.c0 p.c1 p.c2 p.c3 p.c3 p.c1 p.c0 p.c2) 5) (true)) (must (must (K 0 (.cons 2 (.sl 1 0 4 (.ex 4)) (.cons 0 (.ptr 0 0) .nil)) (Rs4n p.l p.com p.sh p.c0 p.c1 p.c2 p.c3 p.c3 p.c1 p.c2 p.c0) 5) (true)) (true))) (must (must (must (K 0 (.cons 2 (.sl 1 0 4 (.ex 4)) (.cons 0 (.ptr 0 0) .nil)) (Rs4n p.l p.com p.sh p.c0 p.c1 p.c2 p.c3 p.c3 p.c2 p.c0 p.c1) 5) (true)) (must (must (K 0 (.cons 2 (.sl 1 0 4 (.ex 4)) (.cons 0 (.ptr 0 0) .nil)) (Rs4n p.l p.com p.sh p.c0 p.c1 p.c2 p.c3 p.c3 p.c2 p.c1 p.c0) 5) (true)) (true))) (true)))) (true)))))) (by kernel_rfl) ?_
 obtain ⟨l, com, sh, c0, c1, c2, c3⟩ := p; dsimp only; repeat' (first | exact fin_rg4 hK ⟨_, _, _, _⟩ (by dsimp only [po_rg4]; intro v; simp only [List.count_cons, List.count_nil] <;> omega) | refine must_mk ?_ ?_ | refine mI rfl ?_ | exact rfl)
theorem lo_rg4 : LpOk Try.prog 58 1 lp_settle4 false 0 bd_rg4 := by
 refine sp_of (lf := 600) tb_mix (cfT_ok nat_settle3_ok) (by rfl) (fun b j x h => by cases h) (fun S M nx K h => ?_)
 obtain ⟨p, h⟩ := exB_ok h
 obtain ⟨e, h9⟩ := mustP_ok h
 clear h
 have e1 : S = (I_rg4 p).1 := congrArg Prod.fst e
 have e2 : M = (I_rg4 p).2.1 := congrArg (fun x => x.2.1) e
 have e3 : nx = (I_rg4 p).2.2 := congrArg (fun x => x.2.2) e
 subst e1; subst e2; subst e3
 exact vb_rg4 p K h9
structure A_settle4 where
 l : List Int
 com : Int
 sh : Prop
 c0 : Int
 c1 : Int
 c2 : Int
 c3 : Int
structure R_settle4 where
 com : Int
def po_settle4 (p : A_settle4) (r : R_settle4) : Prop := comR 3 p.com r.com [(p.l.length : Int), p.c1, p.c2, p.c3]
noncomputable def I_settle4 (p : A_settle4) : IE := ([.ptr 0 0], (Ro4n p.l p.com p.sh p.c0 p.c1 p.c2 p.c3), 4)
noncomputable def out_settle4 (p : A_settle4) (K : KE) : Bool := allB fun r : R_settle4 => iP (po_settle4 p r) (K (.tup []) (Ro4n p.l r.com p.sh (p.l.length : Int) p.c1 p.c2 p.c3) 4) true
theorem fin_settle4 {p : A_settle4} {K : KE} (hK : out_settle4 p K = true) (r : R_settle4) (h : po_settle4 p r) : K (.tup []) (Ro4n p.l r.com p.sh (p.l.length : Int) p.c1 p.c2 p.c3) 4 = true := ifB_use h (allB_ok hK r)
theorem vf_settle4 (p : A_settle4) (K : KE) (hK : out_settle4 p K = true) : (funE 1 (cfT nat_settle3) lp_settle4 600 ft_settle4 (I_settle4 p).1 (I_settle4 p).2.1 (I_settle4 p).2.2 K) = true := by
 refine Eq.trans (b := (exB fun p1 : A_rg4 => mP (((.cons 2 (.sl 1 0 0 (.ex 4)) (.cons 0 (.ptr 0 0) .nil)), (.node (.node (.node .leaf (some (.prow 45 18 Int p.l encK)) .leaf) (some (.blk false 3 1 [[.int 0 (.ofNat 0)], [.int 0 (.ofNat 0)], [.int 0 (.ofNat 0)], [.int 0 (.ofNat 0)]])) .leaf) (some (.blk false 67 10 [[.int 1 (.ofNat 0), .int 3 (.ofNat 1), .sl 2 0 4 (.rest 0), .int 1 (.ofNat 0), .int 2 (.ofNat 1), .sy (.prow 3 p.l.length), .int 0 (.ofNat 0), .sy (.int 0 p.com), .sy (.bool p.sh), .map 4]])) (.node (.node .leaf (some (.map [(.agg [.int 1 (.ofNat 0), .int 2 (.ofNat 1)], .sy (.int 0 (p.l.length : Int)), 0), (.agg [.int 1 (.ofNat 1), .int 2 (.ofNat 1)], .sy (.int 0 p.c1), 1), (.agg [.int 1 (.ofNat 2), .int 2 (.ofNat 1)], .sy (.int 0 p.c2), 2), (.agg [.int 1 (.ofNat 3), .int 2 (.ofNat 1)], .sy (.int 0 p.c3), 3)] 4)) .leaf) (some (.blk true 31 2 [[.int 1 (.ofNat 0), .int 2 (.ofNat 1)], [.int 1 (.ofNat 1), .int 2 (.ofNat 1)], [.int 1 (.ofNat 2), .int 2 (.ofNat 1)], [.int 1 (.ofNat 3), .int 2 (.ofNat 1)]])) .leaf)), 5) = I_rg4 p1) (allB fun r1 : R_rg4 => iP (po_rg4 p1 r1) (exB fun p2 : A_sort4 => mP (([.sl 0 0 4 (.ex 4)], (Sb4 r1.v0 r1.v1 r1.v2 r1.v3), 1) = I_sort4 p2) (allB fun r2 : R_sort4 => iP (po_sort4 p2 r2) (mP (((.int 0 p1.com) : SY) = (.int 0 p1.com)) (K (.tup []) (Ro4n p1.l (max p1.com r2.y1) p1.sh p1.c0 p1.c1 p1.c2 p1.c3) 4)) true)) true))) (by kernel_rfl) ?_
 refine callR (⟨p.l, p.com, p.sh, (p.l.length : Int), p.c1, p.c2, p.c3⟩ : A_rg4) rfl fun r1 hi1 => ?_
 dsimp only [po_rg4] at hi1
 refine callR (⟨r1.v0, r1.v1, r1.v2, r1.v3⟩ : A_sort4) rfl fun r2 hi2 => ?_
 dsimp only [po_sort4] at hi2
 refine mI (rfl) ?_
 exact fin_settle4 hK ⟨max p.com r2.y1⟩ (by dsimp only [po_settle4] <;> (obtain ⟨s0, s1, s2, s3⟩ := hi2; refine ⟨r2.y1, rfl, ?_⟩; rw [fcount (fun v => ((s3 v).trans (hi1 v)).symm)]; exact fsuf (a := [r2.y0]) (b := [r2.y1, r2.y2, r2.y3]) (by intro x hx; simp only [List.mem_cons, List.not_mem_nil, or_false] at hx; simp only [decide_eq_true_eq]; omega)))
noncomputable def ec_settle4 : SpecE := tstE (elB 1 4) (esOf I_settle4 out_settle4) ec_settle3
theorem nc_settle4 : NatE Try.prog 37 1 ec_settle4 := tstE_ok (natE_said (f := 37) (k := 1) (lp := lp_settle4) (lf := 600) tb_mix (cfT_ok nat_settle3_ok) ft_settle4_ok (by rfl) (fun b j x h => (mem_step lo_rg4 (fun h => (by cases h)) h)) fun p K h => vf_settle4 p K h) nc_settle3
noncomputable def nat_settle4 := natC nat_settle3 1 ec_settle4 37 [(0, 4)]
theorem nat_settle4_ok : NatsOk Try.prog nat_settle4 := natC_ok nc_settle4 nat_settle3_ok
def ft_settle5 : XF := ft_settle1
theorem ft_settle5_ok : chkF Try.prog 37 ft_settle5 = true := ft_settle1_ok
structure A_rg5 where
 l : List Int
 com : Int
 sh : Prop
 c0 : Int
 c1 : Int
 c2 : Int
 c3 : Int
 c4 : Int
structure R_rg5 where
 v0 : Int
 v1 : Int
 v2 : Int
 v3 : Int
 v4 : Int
def po_rg5 (p : A_rg5) (r : R_rg5) : Prop := ∀ v : Int, [r.v0, r.v1, r.v2, r.v3, r.v4].count v = [p.c0, p.c1, p.c2, p.c3, p.c4].count v
noncomputable def I_rg5 (p : A_rg5) : IL := ((.cons 2 (.sl 1 0 0 (.ex 5)) (.cons 0 (.ptr 0 0) .nil)), (.node (.node (.node .leaf (some (.prow 45 18 Int p.l encK)) .leaf) (some (.blk false 3 1 [[.int 0 (.ofNat 0)], [.int 0 (.ofNat 0)], [.int 0 (.ofNat 0)], [.int 0 (.ofNat 0)], [.int 0 (.ofNat 0)]])) .leaf) (some (.blk false 67 10 [[.int 1 (.ofNat 0), .int 3 (.ofNat 1), .sl 2 0 5 (.rest 0), .int 1 (.ofNat 0), .int 2 (.ofNat 1), .sy (.prow 3 p.l.length), .int 0 (.ofNat 0), .sy (.int 0 p.com), .sy (.bool p.sh), .map 4]])) (.node (.node .leaf (some (.map [(.agg [.int 1 (.ofNat 0), .int 2 (.ofNat 1)], .sy (.int 0 p.c0), 0), (.agg [.int 1 (.ofNat 1), .int 2 (.ofNat 1)], .sy (.int 0 p.c1), 1), (.agg [.int 1 (.ofNat 2), .int 2 (.ofNat 1)], .sy (.int 0 p.c2), 2), (.agg [.int 1 (.ofNat 3), .int 2 (.ofNat 1)], .sy (.int 0 p.c3), 3), (.agg [.int 1 (.ofNat 4), .int 2 (.ofNat 1)], .sy (.int 0 p.c4), 4)] 5)) .leaf) (some (.blk true 31 2 [[.int 1 (.ofNat 0), .int 2 (.ofNat 1)], [.int 1 (.ofNat 1), .int 2 (.ofNat 1)], [.int 1 (.ofNat 2), .int 2 (.ofNat 1)], [.int 1 (.ofNat 3), .int 2 (.ofNat 1)], [.int 1 (.ofNat 4), .int 2 (.ofNat 1)]])) .leaf)), 5)
noncomputable def out_rg5 (p : A_rg5) (K : KC) : Bool := allB fun r : R_rg5 => iP (po_rg5 p r) (K 0 (.cons 2 (.sl 1 0 5 (.ex 5)) (.cons 0 (.ptr 0 0) .nil)) (Rs5n p.l p.com p.sh p.c0 p.c1 p.c2 p.c3 p.c4 r.v0 r.v1 r.v2 r.v3 r.v4) 5) true
theorem fin_rg5 {p : A_rg5} {K : KC} (hK : out_rg5 p K = true) (r : R_rg5) (h : po_rg5 p r) : K 0 (.cons 2 (.sl 1 0 5 (.ex 5)) (.cons 0 (.ptr 0 0) .nil)) (Rs5n p.l p.com p.sh p.c0 p.c1 p.c2 p.c3 p.c4 r.v0 r.v1 r.v2 r.v3 r.v4) 5 = true := ifB_use h (allB_ok hK r)
noncomputable def sp_rg5 (p : A_rg5) (K : KC) : Bool := out_rg5 p K
noncomputable def lp_settle5 : LpF := fun j S M nx K => (Bool.rec (false) (exB fun p : A_rg5 => must (prB ((S, M, nx) = I_rg5 p)) (sp_rg5 p K)) (Nat.beq j 0))
def bd_rg5 : XC := bd_rg1
theorem vb_rg5 (p : A_rg5) (K : KC) (hK : out_rg5 p K = true) : (codeX (cfT nat_settle4) lp_settle5 600 bd_rg5 (I_rg5 p).1 (I_rg5 p).2.1 (I_rg5 p).2.2 K) = true := by
 refine Eq.trans (b := (must (must (must (must (must (K 0 (.cons 2 (.sl 1 0 5 (.ex 5)) (.cons 0 (.ptr 0 0) .nil)) (Rs5n p.l p.com p.sh p.c0 p.c1 p.c2 p.c3 p.c4 p.c0 p.c1 p.c2 p.c3 p.c4) 5) (true)) (must (must (K 0 (.cons 2 (.sl 1 0 5 (.ex 5)) (.cons 0 (.ptr 0 0) .nil)) (Rs5n p.l p.com p.sh p.c0 p.c1 p.c2 p.c3 p.c4 p.c0 p.c1 p.c2 p.c4 p.c3) 5) (true)) (true))) (must (must (must (K 0 (.cons 2 (.sl 1 0 5 (.ex 5)) (.cons 0 (.ptr 0 0) .nil)) (Rs5n p.l p.com p.sh p.c0 p.c1 p.c2 p.c3 p.c4 p.c0 p.c1 p.c3 p.c2 p.c4) 5) (true)) (must (must (K 0 (.cons 2 (.sl 1 0 5 (.ex 5)) (.cons 0 (.ptr 0 0) .nil)) (Rs5n p.l p.com p.sh p.c0 p.c1 p.c2 p.c3 p.c4 p.c0 p.c1 p.c3 p.c4 p.c2) 5) (true)) (true))) (must (must (must (K 0 (.cons 2 (.sl 1 0 5 (.ex 5)) (.cons 0 (.ptr 0 0) .nil)) (Rs5n p.l p.com p.sh p.c0 p.c1 p.c2 p.c3 p.c4 p.c0 p.c1 p.c4 p.c2 p.c3) 5) (true)) (must (must (K 0 (.cons 2 (.sl 1 0 5 (.ex 5)) (.cons 0 (.ptr 0 0) .nil)) (Rs5n p.l p.com p.sh p.c0 p.c1 p.c2 p.c3 p.c4 p.c0 p.c1 p.c4 p.c3 p.c2) 5) (true)) (true))) (true)))) (must (must (must (must (K 0 (.cons 2 (.sl 1 0 5 (.ex 5)) (.cons 0 (.ptr 0 0) .nil)) (Rs5n p.l p.com p.sh p.c0 p.c1 p.c2 p.c3 p.c4 p.c0 p.c2 p.c1 p.c3 p.c4) 5) (true)) (must (must (K 0 (.cons 2 (.sl 1 0 5 (.ex 5)) (.cons 0 (.ptr 0 0) .nil)) (Rs5n p.l p.com p.sh p.c0 p.c1 p.c2 p.c3 p.c4 p.c0 p.c2 p.c1 p.c4 p.c3) 5) (true)) (true))) (must (must (must (K 0 (.cons 2 (.sl 1 0 5 (.ex 5)) (.cons 0 (.ptr 0 0) .nil)) (Rs5n p.l p.com p.sh p.c0 p.c1 p.c2 p.c3 p.c4 p.c0 p.c2 p.c3 p.c1 p.c4) 5) (true)) (must (must (K 0 (.cons 2 (.sl 1 0 5 (.ex 5)) (.cons 0 (.ptr 0 0) .nil)) (Rs5n p.l p.com p.sh p.c0 p.c1 p.c2 p.c3 p.c4 p.c0 p.c2 p.c3 p.c4 p.c1) 5) (true)) (true))) (must (must (must (K 0 (.cons 2 (.sl 1 0 5 (.ex 5)) (.cons 0 (.ptr 0 0) .nil)) (Rs5n p.l p.com p.sh p.c0 p.c1 p.c2 p.c3 p.c4 p.c0 p.c2 p.c4 p.c1 p.c3) 5) (true)) (must (must (K 0 (.cons 2 (.sl 1 0 5 (.ex 5)) (.cons 0 (.ptr 0 0) .nil)) (Rs5n p.l p.com p.sh p.c0 p.c1 p.c2 p.c3 p.c4 p.c0 p.c2 p.c4 p.c3 p.c1) 5) (true)) (true))) (true)))) (must (must (must (must (K 0 (.cons 2 (.sl 1 0 5 (.ex 5)) (.cons 0 (.ptr 0 0) .nil)) (Rs5n p.l p.com p.sh p.c0 p.c1 p.c2 p.c3 p.c4 p.c0 p.c3 p.c1 p.c2 p.c4) 5) (true)) (must (must (K 0 (.cons 2 (.sl 1 0 5 (.ex 5)) (.cons 0 (.ptr 0 0) .nil)) (Rs5n p.l p.com p.sh p.c0 p.c1 p.c2 p.c3 p.c4 p.c0 p.c3 p.c1 p.c4 p.c2) 5) (true)) (true))) (must (must (must (K 0 (.cons 2 (.sl 1 0 5 (.ex 5)) (.cons 0 (.ptr 0 0) .nil)) (Rs5n p.l p.com p.sh p.c0 p.c1 p.c2 p.c3 p.c4 p.c0 p.c3 p.c2 p.c1 p.c4) 5) (true)) (must (must (K 0 (.cons 2 (.sl 1 0 5 (.ex 5)) (.cons 0 (.ptr 0 0) .nil)) (Rs5n p.l p.com p.sh p.c0 p.c1 p.c2 p.c3 p.c4 p.c0 p.c3 p.c2 p.c4 p.c1) 5) (true)) (true))) (must (must (must (K 0 (.cons 2 (.sl 1 0 5 (.ex 5)) (.cons 0 (.ptr 0 0) .nil)) (Rs5n p.l p.com p.sh p.c0 p.c1 p.c2 p.c3 p.c4 p.c0 p.c3 p.c4 p.c1 p.c2) 5) (true)) (must (must (K 0 (.cons 2 (.sl 1 0 5 (.ex 5)) (.cons 0 (.ptr 0 0) .nil)) (Rs5n p.l p.com p.sh p.c0 p.c1 p.c2 p.c3 p.c4 p.c0 p.c3 p.c4 p.c2 p.c1) 5) (true)) (true))) (true)))) (must (must (must (must (K 0 (.cons 2 (.sl 1 0 5 (.ex 5)) (.cons 0 (.ptr 0 0) .nil)) (Rs5n p.l p.com p.sh p.c0 p.c1 p.c2 p.c3 p.c4 p.c0 p.c4 p.c1 p.c2 p.c3) 5) (true)) (must (must (K 0 (.cons 2 (.sl 1 0 5 (.ex 5)) (.cons 0 (.ptr 0 0) .nil)) (Rs5n p.l p.com p.sh p.c0 p.c1 p.c2 p.c3 p.c4 p.c0 p.c4 p.c1 p.c3 p.c2) 5) (true)) (true))) (must (must (must (K 0 (.cons 2 (.sl 1 0 5 (.ex 5)) (.cons 0 (.ptr 0 0) .nil)) (Rs5n p.l p.com p.sh p.c0 p.c1 p.c2 p.c3 p.c4 p.c0 p.c4 p.c2 p.c1 p.c3) 5) (true)) (must (must (K 0 (.cons 2 (.sl 1 0 5 (.ex 5)) (.cons 0 (.ptr 0 0) .nil)) (Rs5n p.l p.com p.sh p.c0 p.c1 p.c2 p.c3 p.c4 p.c0 p.c4 p.c2 p.c3 p.c1) 5) (true)) (true))) (must (must (must (K 0 (.cons 2 (.sl 1 0 5 (.ex 5)) (.cons 0 (.ptr 0 0) .nil)) (Rs5n p.l p.com p.sh p.c0 p.c1 p.c2 p.c3 p.c4 p.c0 p.c4 p.c3 p.c1 p.c2) 5) (true)) (must (must (K 0 (.cons 2 (.sl 1 0 5 (.ex 5)) (.cons 0 (.ptr 0 0) .nil)) (Rs5n p.l p.com p.sh p.c0 p.c1 p.c2 p.c3 p.c4 p.c0 p.c4 p.c3 p.c2 p.c1) 5) (true)) (true))) (true)))) (true))))) (must (must (must (must (must (K 0 (.cons 2 (.sl 1 0 5 (.ex 5)) (.cons 0 (.ptr 0 0) .nil)) (Rs5n p.l p.com p.sh p.c0 p.c1 p.c2 p.c3 p.c4 p.c1 p.c0 p.c2 p.c3 p.c4) 5) (true)) (must (must (K 0 (.cons 2 (.sl 1 0 5 (.ex 5)) (.cons 0 (.ptr 0 0) .nil)) (Rs5n p.l p.com p.sh p.c0 p.c1 p.c2 p.c3 p.c4 p.c1 p.c0 p.c2 p.c4 p.c3) 5) (true)) (true))) (must (must (must (K 0 (.cons 2 (.sl 1 0 5 (.ex 5)) (.cons 0 (.ptr 0 0) .nil)) (Rs5n p.l p.com p.sh p.c0 p.c1 p.c2 p.c3 p.c4 p.c1 p.c0 p.c3 p.c2 p.c4) 5) (true)) (must (must (K 0 (.cons 2 (.sl 1 0 5 (.ex 5)) (.cons 0 (.ptr 0 0) .nil)) (Rs5n p.l p.com p.sh p.c0 p.c1 p.c2 p.c3 p.c4 p.c1 p.c0 p.c3 p.c4 p.c2) 5) (true)) (true))) (must (must (must (K 0 (.cons 2 (.sl 1 0 5 (.ex 5)) (.cons 0 (.ptr 0 0) .nil)) (Rs5n p.l p.com p.sh p.c0 p.c1 p.c2 p.c3 p.c4 p.c1 p.c0 p.c4 p.c2 p.c3) 5) (true)) (must (must (K 0 (.cons 2 (.sl 1 0 5 (.ex 5)) (.cons 0 (.ptr 0 0) .nil)) (Rs5n p.l p.com p.sh p.c0 p.c1 p.c2 p.c3 p.c4 p.c1 p.c0 p.c4 p.c3 p.c2) 5) (true)) (true))) (true)))) (must (must (must (must (K 0 (.cons 2 (.sl 1 0 5 (.ex 5)) (.cons 0 (.ptr 0 0) .nil)) (Rs5n p.l p.com p.sh p.c0 p.c1 p.c2 p.c3 p.c4 p.c1 p.c2 p.c0 p.c3 p.c4) 5) (true)) (must (must (K 0 (.cons 2 (.sl 1 0 5 (.ex 5)) (.cons 0 (.ptr 0 0) .nil)) (Rs5n p.l p.com p.sh p.c0 p.c1 p.c2 p.c3 p.c4 p.c1 p.c2 p.c0 p.c4 p.c3) 5) (true)) (true))) (must (must (must (K 0 (.cons 2 (.sl 1 0 5 (.ex 5)) (.cons 0 (.ptr 0 0) .nil)) (Rs5n p.l p.com p.sh p.c0 p.c1 p.c2 p.c3 p.c4 p.c1 p.c2 p.c3 p.c0 p.c4) 5) (true)) (must (must (K 0 (.cons 2 (.sl 1 0 5 (.ex 5)) (.cons 0 (.ptr 0 0) .nil)) (Rs5n p.l p.com p.sh p.c0 p.c1 p.c2 p.c3 p.c4 p.c1 p.c2 p.c3 p.c4 p.c0) 5) (true)) (true))) (must (must (must (K 0 (.cons 2 (.sl 1 0 5 (.ex 5)) (.cons 0 (.ptr 0 0) .nil)) (Rs5n p.l p.com p.sh p.c0 p.c1 p.c2 p.c3 p.c4 p.c1 p.c2 p.c4 p.c0 p.c3) 5) (true)) (must (must (K 0 (.cons 2 (.sl 1 0 5 (.ex 5)) (.cons 0 (.ptr 0 0) .nil)) (Rs5n p.l p.com p.sh p.c0 p.c1 p.c2 p.c3 p.c4 p.c1 p.c2 p.c4 p.c3 p.c0) 5) (true)) (true))) (true)))) (must (must (must (must (K 0 (.cons 2 (.sl 1 0 5 (.ex 5)) (.cons 0 (.ptr 0 0) .nil)) (Rs5n p.l p.com p.sh p.c0 p.c1 p.c2 p.c3 p.c4 p.c1 p.c3 p.c0 p.c2 p.c4) 5) (true)) (must (must (K 0 (.cons 2 (.sl 1 0 5 (.ex 5)) (.cons 0 (.ptr 0 0) .nil)) (Rs5n p.l p.com p.sh p.c0 p.c1 p.c2 p.c3 p.c4 p.c1 p.c3 p.c0 p.c4 p.c2) 5) (true)) (true))) (must (must (must (K 0 (.cons 2 (.sl 1 0 5 (.ex 5)) (.cons 0 (.ptr 0 0) .nil)) (Rs5n p.l p.com p.sh p.c0 p.c1 p.c2 p.c3 p.c4 p.c1 p.c3 p.c2 p.c0 p.c4) 5) (true)) (must (must (K 0 (.cons 2 (.sl 1 0 5 (.ex 5)) (.cons 0 (.ptr 0 0) .nil)) (Rs5n p.l p.com p.sh p.c0 p.c1 p.c2 p.c3 p.c4 p.c1 p.c3 p.c2 p.c4 p.c0) 5) (true)) (true))) (must (must (must (K 0 (.cons 2 (.sl 1 0 5 (.ex 5)) (.cons 0 (.ptr 0 0) .nil)) (Rs5n p.l p.com p.sh p.c0 p.c1 p.c2 p.c3 p.c4 p.c1 p.c3 p.c4 p.c0 p.c2) 5) (true)) (must (must (K 0 (.cons 2 (.sl 1 0 5 (.ex 5)) (.cons 0 (.ptr 0 0) .nil)) (Rs5n p.l p.com p.sh p.c0 p.c1 p.c2 p.c3 p.c4 p.c1 p.c3 p.c4 p.c2 p.c0) 5) (true)) (true))) (true)))) (must (must (must (must (K 0 (.cons 2 (.sl 1 0 5 (.ex 5)) (.cons 0 (.ptr 0 0) .nil)) (Rs5n p.l p.com p.sh p.c0 p.c1 p.c2 p.c3 p.c4 p.c1 p.c4 p.c0 p.c2 p.c3) 5) (true)) (must (must (K 0 (.cons 2 (.sl 1 0 5 (.ex 5)) (.cons 0 (.ptr 0 0) .nil)) (Rs5n p.l p.com p.sh p.c0 p.c1 p.c2 p.c3 p.c4 p.c1 p.c4 p.c0 p.c3 p.c2) 5) (true)) (true))) (must (must (must (K 0 (.cons 2 (.sl 1 0 5 (.ex 5)) (.cons 0 (.ptr 0 0) .nil)) (Rs5n p.l p.com p.sh p.c0 p.c1 p.c2 p.c3 p.c4 p.c1 p.c4 p.c2 p.c0 p.c3) 5) (true)) (must (must (K 0 (.cons 2 (.sl 1 0 5 (.ex 5)) (.cons 0 (.ptr 0 0) .nil)) (Rs5n p.l p.com p.sh p.c0 p.c1 p.c2 p.c3 p.c4 p.c1 p.c4 p.c2 p.c3 p.c0) 5) (true)) (true))) (must (must (must (K 0 (.cons 2 (.sl 1 0 5 (.ex 5)) (.cons 0 (.ptr 0 0) .nil)) (Rs5n p.l p.com p.sh p.c0 p.c1 p.c2 p.c3 p.c4 p.c1 p.c4 p.c3 p.c0 p.c2) 5) (true)) (must (must (K 0 (.cons 2 (.sl 1 0 5 (.ex 5)) (.cons 0 (.ptr 0 0) .nil)) (Rs5n p.l p.com p.sh p.c0 p.c1 p.c2 p.c3 p.c4 p.c1 p.c4 p.c3 p.c2 p.c0) 5) (true)) (true))) (true)))) (true))))) (must (must (must (must (must (K 0 (.cons 2 (.sl 1 0 5 (.ex 5)) (.cons 0 (.ptr 0 0) .nil)) (Rs5n p.l p.com p.sh p.c0 p.c1 p.c2 p.c3 p.c4 p.c2 p.c0 p.c1 p.c3 p.c4) 5) (true)) (must (must (K 0 (.cons 2 (.sl 1 0 5 (.ex 5)) (.cons 0 (.ptr 0 0) .nil)) (Rs5n p.l p.com p.sh p.c0 p.c1 p.c2 p.c3 p.c4 p.c2 p.c0 p.c1 p.c4 p.c3) 5) (true)) (true))) (must (must (must (K 0 (.cons 2 (.sl 1 0 5 (.ex 5)) (.cons 0 (.ptr 0 0) .nil)) (Rs5n p.l p.com p.sh p.c0 p.c1 p.c2 p.c3 p.c4 p.c2 p.c0 p.c3 p.c1 p.c4) 5) (true)) (must (must (K 0 (.cons 2 (.sl 1 0 5 (.ex 5)) (.cons 0 (.ptr 0 0) .nil)) (Rs5n p.l p.com p.sh p.c0 p.c1 p.c2 p.c3 p.c4 p.c2 p.c0 p.c3 p.c4 p.c1) 5) (true)) (true))) (must (must (must (K 0 (.cons 2 (.sl 1 0 5 (.ex 5)) (.cons 0 (.ptr 0 0) .nil)) (Rs5n p.l p.com p.sh p.c0 p.c1 p.c2 p.c3 p.c4 p.c2 p.c0 p.c4 p.c1 p.c3) 5) (true)) (must (must (K 0 (.cons 2 (.sl 1 0 5 (.ex 5)) (.cons 0 (.ptr 0 0) .nil)) (Rs5n p.l p.com p.sh p.c0 p.c1 p.c2 p.c3 p.c4 p.c2 p.c0 p.c4 p.c3 p.c1) 5) (true)) (true))) (true)))) (must (must (must (must (K 0 (.cons 2 (.sl 1 0 5 (.ex 5)) (.cons 0 (.ptr 0 0) .nil)) (Rs5n p.l p.com p.sh p.c0 p.c1 p.c2 p.c3 p.c4 p.c2 p.c1 p.c0 p.c3 p.c4) 5) (true)) (must (must (K 0 (.cons 2 (.sl 1 0 5 (.ex 5)) (.cons 0 (.ptr 0 0) .nil)) (Rs5n p.l p.com p.sh p.c0 p.c1 p.c2 p.c3 p.c4 p.c2 p.c1 p.c0 p.c4 p.c3) 5) (true)) (true))) (must (must (must (K 0 (.cons 2 (.sl 1 0 5 (.ex 5)) (.cons 0 (.ptr 0 0) .nil)) (Rs5n p.l p.com p.sh p.c0 p.c1 p.c2 p.c3 p.c4 p.c2 p.c1 p.c3 p.c0 p.c4) 5) (true)) (must (must (K 0 (.cons 2 (.sl 1 0 5 (.ex 5)) (.cons 0 (.ptr 0 0) .nil)) (Rs5n p.l p.com p.sh p.c0 p.c1 p.c2 p.c3 p.c4 p.c2 p.c1 p.c3 p.c4 p.c0) 5) (true)) (true))) (must (must (must (K 0 (.cons 2 (.sl 1 0 5 (.ex 5)) (.cons 0 (.ptr 0 0) .nil)) (Rs5n p.l p.com p.sh p.c0 p.c1 p.c2 p.c3 p.c4 p.c2 p.c1 p.c4 p.c0 p.c3) 5) (true)) (must (must (K 0 (.cons 2 (.sl 1 0 5 (.ex 5)) (.cons 0 (.ptr 0 0) .nil)) (Rs5n p.l p.com p.sh p.c0 p.c1 p.c2 p.c3 p.c4 p.c2 p.c1 p.c4 p.c3 p.c0) 5) (true)) (true))) (true)))) (must (must (must (must (K 0 (.cons 2 (.sl 1 0 5 (.ex 5)) (.cons 0 (.ptr 0 0) .nil)) (Rs5n p.l p.com p.sh p.c0 p.c1 p.c2 p.c3 p.c4 p.c2 p.c3 p.c0 p.c1 p.c4) 5) (true)) (must (must (K 0 (.cons 2 (.sl 1 0 5 (.ex 5)) (.cons 0 (.ptr 0 0) .nil)) (Rs5n p.l p.com p.sh p.c0 p.c1 p.c2 p.c3 p.c4 p.c2 p.c3 p.c0 p.c4 p.c1) 5) (true)) (true))) (must (must (must (K 0 (.cons 2 (.sl 1 0 5 (.ex 5)) (.cons 0 (.ptr 0 0) .nil)) (Rs5n p.l p.com p.sh p.c0 p.c1 p.c2 p.c3 p.c4 p.c2 p.c3 p.c1 p.c0 p.c4) 5) (true)) (must (must (K 0 (.cons 2 (.sl 1 0 5 (.ex 5)) (.cons 0 (.ptr 0 0) .nil)) (Rs5n p.l p.com p.sh p.c0 p.c1 p.c2 p.c3 p.c4 p.c2 p.c3 p.c1 p.c4 p.c0) 5) (true)) (true))) (must (must (must (K 0 (.cons 2 (.sl 1 0 5 (.ex 5)) (.cons 0 (.ptr 0 0) .nil)) (Rs5n p.l p.com p.sh p.c0 p.c1 p.c2 p.c3 p.c4 p.c2 p.c3 p.c4 p.c0 p.c1) 5) (true)) (must (must (K 0 (.cons 2 (.sl 1 0 5 (.ex 5)) (.cons 0 (.ptr 0 0) .nil)) (Rs5n p.l p.com p.sh p.c0 p.c1 p.c2 p.c3 p.c4 p.c2 p.c3 p.c4 p.c1 p.c0) 5) (true)) (true))) (true)))) (must (must (must (must (K 0 (.cons 2 (.sl 1 0 5 (.ex 5)) (.cons 0 (.ptr 0 0) .nil)) (Rs5n p.l p.com p.sh p.c0 p.c1 p.c2 p.c3 p.c4 p.c2 p.c4 p.c0 p.c1 p.c3) 5) (true)) (must (must (K 0 (.cons 2 (.sl 1 0 5 (.ex 5)) (.cons 0 (.ptr 0 0) .nil)) (Rs5n p.l p.com p.sh p.c0 p.c1 p.c2 p.c3 p.c4 p.c2 p.c4 p.c0 p.c3 p.c1) 5) (true)) (true))) (must (must (must (K 0 (.cons 2 (.sl 1 0 5 (.ex 5)) (.cons 0 (.ptr 0 0) .nil)) (Rs5n p.l p.com p.sh p.c0 p.c1 p.c2 p.c3 p.c4 p.c2 p.c4 p.c1 p.c0 p.c3) 5) (true)) (must (must (K 0 (.cons 2 (.sl 1 0 5 (.ex 5)) (.cons 0 (.ptr 0 0) .nil)) (Rs5n p.l p.com p.sh p.c0 p.c1 p.c2 p.c3 p.c4 p.c2 p.c4 p.c1 p.c3 p.c0) 5) (true)) (true))) (must (must (must (K 0 (.cons 2 (.sl 1 0 5 (.ex 5)) (.cons 0 (.ptr 0 0) .nil)) (Rs5n p.l p.com p.sh p.c0 p.c1 p.c2 p.c3 p.c4 p.c2 p.c4 p.c3 p.c0 p.c1) 5) (true)) (must (must (K 0 (.cons 2 (.sl 1 0 5 (.ex 5)) (.cons 0 (.ptr 0 0) .nil)) (Rs5n p.l p.com p.sh p.c0 p.c1 p.c2 p.c3 p.c4 p.c2 p.c4 p.c3 p.c1 p.c0) 5) (true)) (true))) (true)))) (true))))) (must (must (must (must (must (K 0 (.cons 2 (.sl 1 0 5 (.ex 5)) (.cons 0 (.ptr 0 0) .nil)) (Rs5n p.l p.com p.sh p.c0 p.c1 p.c2 p.c3 p.c4 p.c3 p.c0 p.c1 p.c2 p.c4) 5) (true)) (must (must (K 0 (.cons 2 (.sl 1 0 5 (.ex 5)) (.cons 0 (.ptr 0 0) .nil)) (Rs5n p.l p.com p.sh p.c0 p.c1 p.c2 p.c3 p.c4 p.c3 p.c0 p.c1 p.c4 p.c2) 5) (true)) (true))) (must (must (must (K 0 (.cons 2 (.sl 1 0 5 (.ex 5)) (.cons 0 (.ptr 0 0) .nil)) (Rs5n p.l p.com p.sh p.c0 p.c1 p.c2 p.c3 p.c4 p.c3 p.c0 p.c2 p.c1 p.c4) 5) (true)) (must (must (K 0 (.cons 2 (.sl 1 0 5 (.ex 5)) (.cons 0 (.ptr 0 0) .nil)) (Rs5n p.l p.com p.sh p.c0 p.c1 p.c2 p.c3 p.c4 p.c3 p.c0 p.c2 p.c4 p.c1) 5) (true)) (true))) (must (must (must (K 0 (.cons 2 (.sl 1 0 5 (.ex 5)) (.cons 0 (.ptr 0 0) .nil)) (Rs5n p.l p.com p.sh p.c0 p.c1 p.c2 p.c3 p.c4 p.c3 p.c0 p.c4 p.c1 p.c2) 5) (true)) (must (must (K 0 (.cons 2 (.sl 1 0 5 (.ex 5)) (.cons 0 (.ptr 0 0) .nil)) (Rs5n p.l p.com p.sh p.c0 p.c1 p.c2 p.c3 p.c4 p.c3 p.c0 p.c4 p.c2 p.c1) 5) (true)) (true))) (true)))) (must (must (must (must (K 0 (.cons 2 (.sl 1 0 5 (.ex 5)) (.cons 0 (.ptr 0 0) .nil)) (Rs5n p.l p.com p.sh p.c0 p.c1 p.c2 p.c3 p.c4 p.c3 p.c1 p.c0 p.c2 p.c4) 5) (true)) (must (must (K 0 (.cons 2 (.sl 1 0 5 (.ex 5)) (.cons 0 (.ptr 0 0) .nil)) (Rs5n p.l p.com p.sh p.c0 p.c1 p.c2 p.c3 p.c4 p.c3 p.c1 p.c0 p.c4 p.c2) 5) (true)) (true))) (must (must (must (K 0 (.cons 2 (.sl 1 0 5 (.ex 5)) (.cons 0 (.ptr 0 0) .nil)) (Rs5n p.l p.com p.sh p.c0 p.c1 p.c2 p.c3 p.c4 p.c3 p.c1 p.c2 p.c0 p.c4) 5) (true)) (must (must (K 0 (.cons 2 (.sl 1 0 5 (.ex 5)) (.cons 0 (.ptr 0 0) .nil)) (Rs5n p.l p.com p.sh p.c0 p.c1 p.c2 p.c3 p.c4 p.c3 p.c1 p.c2 p.c4 p.c0) 5) (true)) (true))) (must (must (must (K 0 (.cons 2 (.sl 1 0 5 (.ex 5)) (.cons 0 (.ptr 0 0) .nil)) (Rs5n p.l p.com p.sh p.c0 p.c1 p.c2 p.c3 p.c4 p.c3 p.c1 p.c4 p.c0 p.c2) 5) (true)) (must (must (K 0 (.cons 2 (.sl 1 0 5 (.ex 5)) (.cons 0 (.ptr 0 0) .nil)) (Rs5n p.l p.com p.sh p.c0 p.c1 p.c2 p.c3 p.c4 p.c3 p.c1 p.c4 p.c2 p.c0) 5) (true)) (true))) (true)))) (must (must (must (must (K 0 (.cons 2 (.sl 1 0 5 (.ex 5)) (.cons 0 (.ptr 0 0) .nil)) (Rs5n p.l p.com p.sh p.c0 p.c1 p.c2 p.c3 p.c4 p.c3 p.c2 p.c0 p.c1 p.c4) 5) (true)) (must (must (K 0 (.cons 2 (.sl 1 0 5 (.ex 5)) (.cons 0 (.ptr 0 0) .nil)) (Rs5n p.l p.com p.sh p.c0 p.c1 p.c2 p.c3 p.c4 p.c3 p.c2 p.c0 p.c4 p.c1) 5) (true)) (true))) (must (must (must (K 0 (.cons 2 (.sl 1 0 5 (.ex 5)) (.cons 0 (.ptr 0 0) .nil)) (Rs5n p.l p.com p.sh p.c0 p.c1 p.c2 p.c3 p.c4 p.c3 p.c2 p.c1 p.c0 p.c4) 5) (true)) (must (must (K 0 (.cons 2 (.sl 1 0 5 (.ex 5)) (.cons 0 (.ptr 0 0) .nil)) (Rs5n p.l p.com p.sh p.c0 p.c1 p.c2 p.c3 p.c4 p.c3 p.c2 p.c1 p.c4 p.c0) 5) (true)) (true))) (must (must (must (K 0 (.cons 2 (.sl 1 0 5 (.ex 5)) (.cons 0 (.ptr 0 0) .nil)) (Rs5n p.l p.com p.sh p.c0 p.c1 p.c2 p.c3 p.c4 p.c3 p.c2 p.c4 p.c0 p.c1) 5) (true)) (must (must (K 0 (.cons 2 (.sl 1 0 5 (.ex 5)) (.cons 0 (.ptr 0 0) .nil)) (Rs5n p.l p.com p.sh p.c0 p.c1 p.c2 p.c3 p.c4 p.c3 p.c2 p.c4 p.c1 p.c0) 5) (true)) (true))) (true)))) (must (must (must (must (K 0 (.cons 2 (.sl 1 0 5 (.ex 5)) (.cons 0 (.ptr 0 0) .nil)) (Rs5n p.l p.com p.sh p.c0 p.c1 p.c2 p.c3 p.c4 p.c3 p.c4 p.c0 p.c1 p.c2) 5) (true)) (must (must (K 0 (.cons 2 (.sl 1 0 5 (.ex 5)) (.cons 0 (.ptr 0 0) .nil)) (Rs5n p.l p.com p.sh p.c0 p.c1 p.c2 p.c3 p.c4 p.c3 p.c4 p.c0 p.c2 p.c1) 5) (true)) (true))) (must (must (must (K 0 (.cons 2 (.sl 1 0 5 (.ex 5)) (.cons 0 (.ptr 0 0) .nil)) (Rs5n p.l p.com p.sh p.c0 p.c1 p.c2 p.c3 p.c4 p.c3 p.c4 p.c1 p.c0 p.c2) 5) (true)) (must (must (K 0 (.cons 2 (.sl 1 0 5 (.ex 5)) (.cons 0 (.ptr 0 0) .nil)) (Rs5n p.l p.com p.sh p.c0 p.c1 p.c2 p.c3 p.c4 p.c3 p.c4 p.c1 p.c2 p.c0) 5) (true)) (true))) (must (must (must (K 0 (.cons 2 (.sl 1 0 5 (.ex 5)) (.cons 0 (.ptr 0 0) .nil)) (Rs5n p.l p.com p.sh p.c0 p.c1 p.c2 p.c3 p.c4 p.c3 p.c4 p.c2 p.c0 p.c1) 5) (true)) (must (must (K 0 (.cons 2 (.sl 1 0 5 (.ex 5)) (.cons 0 (.ptr 0 0) .nil)) (Rs5n p.l p.com p.sh p.c0 p.c1 p.c2 p.c3 p.c4 p.c3 p.c4 p.c2 p.c1 p.c0) 5) (true)) (true))) (true)))) (true))))) (must (must (must (must (must (K 0 (.cons 2 (.sl 1 0 5 (.ex 5)) (.cons 0 (.ptr 0 0) .nil)) (Rs5n p.l p.com p.sh p.c0 p.c1 p.c2 p.c3 p.c4 p.c4 p.c0 p.c1 p.c2 p.c3) 5) (true)) (must (must (K 0 (.cons 2 (.sl 1 0 5 (.ex 5)) (.cons 0 (.ptr 0 0) .nil)) (Rs5n p.l p.com p.sh p.c0 p.c1 p.c2 p.c3 p.c4 p.c4 p.c0 p.c1 p.c3 p.c2) 5) (true)) (true))) (must (must (must (K 0 (.cons 2 (.sl 1 0 5 (.ex 5)) (.cons 0 (.ptr 0 0) .nil)) (Rs5n p.l p.com p.sh p.c0 p.c1 p.c2 p.c3 p.c4 p.c4 p.c0 p.c2 p.c1 p.c3) 5) (true)) (must (must (K 0 (.cons 2 (.sl 1 0 5 (.ex 5)) (.cons 0 (.ptr 0 0) .nil)) (Rs5n p.l p.com p.sh p.c0 p.c1 p.c2 p.c3 p.c4 p.c4 p.c0 p.c2 p.c3 p.c1) 5) (true)) (true))) (must (must (must (K 0 (.cons 2 (.sl 1 0 5 (.ex 5)) (.cons 0 (.ptr 0 0) .nil)) (Rs5n p.l p.com p.sh p.c0 p.c1 p.c2 p.c3 p.c4 p.c4 p.c0 p.c3 p.c1 p.c2) 5) (true)) (must (must (K 0 (.cons 2 (.sl 1 0 5 (.ex 5)) (.cons 0 (.ptr 0 0) .nil)) (Rs5n p.l p.com p.sh p.c0 p.c1 p.c2 p.c3 p.c4 p.c4 p.c0 p.c3 p.c2 p.c1) 5) (true)) (true))) (true)))) (must (must (must (must (K 0 (.cons 2 (.sl 1 0 5 (.ex 5)) (.cons 0 (.ptr 0 0) .nil)) (Rs5n p.l p.com p.sh p.c0 p.c1 p.c2 p.c3 p.c4 p.c4 p.c1 p.c0 p.c2 p.c3) 5) (true)) (must (must (K 0 (.cons 2 (.sl 1 0 5 (.ex 5)) (.cons 0 (.ptr 0 0) .nil)) (Rs5n p.l p.com p.sh p.c0 p.c1 p.c2 p.c3 p.c4 p.c4 p.c1 p.c0 p.c3 p.c2) 5) (true)) (true))) (must (must (must (K 0 (.cons 2 (.sl 1 0 5 (.ex 5)) (.cons 0 (.ptr 0 0) .nil)) (Rs5n p.l p.com p.sh p.c0 p.c1 p.c2 p.c3 p.c4 p.c4 p.c1 p.c2 p.c0 p.c3) 5) (true)) (must (must (K 0 (.cons 2 (.sl 1 0 5 (.ex 5)) (.cons 0 (.ptr 0 0) .nil)) (Rs5n p.l p.com p.sh p.c0 p.c1 p.c2 p.c3 p.c4 p.c4 p.c1 p.c2 p.c3 p.c0) 5) (true)) (true))) (must (must (must (K 0 (.cons 2 (.sl 1 0 5 (.ex 5)) (.cons 0 (.ptr 0 0) .nil)) (Rs5n p.l p.com p.sh p.c0 p.c1 p.c2 p.c3 p.c4 p.c4 p.c1 p.c3 p.c0 p.c2) 5) (true)) (must (must (K 0 (.cons 2 (.sl 1 0 5 (.ex 5)) (.cons 0 (.ptr 0 0) .nil)) (Rs5n p.l p.com p.sh p.c0 p.c1 p.c2 p.c3 p.c4 p.c4 p.c1 p.c3 p.c2 p.c0) 5) (true)) (true))) (true)))) (must (must (must (must (K 0 (.cons 2 (.sl 1 0 5 (.ex 5)) (.cons 0 (.ptr 0 0) .nil)) (Rs5n p.l p.com p.sh p.c0 p.c1 p.c2 p.c3 p.c4 p.c4 p.c2 p.c0 p.c1 p.c3) 5) (true)) (must (must (K 0 (.cons 2 (.sl 1 0 5 (.ex 5)) (.cons 0 (.ptr 0 0) .nil)) (Rs5n p.l p.com p.sh p.c0 p.c1 p.c2 p.c3 p.c4 p.c4 p.c2 p.c0 p.c3 p.c1) 5) (true)) (true))) (must (must (must (K 0 (.cons 2 (.sl 1 0 5 (.ex 5)) (.cons 0 (.ptr 0 0) .nil)) (Rs5n p.l p.com p.sh p.c0 p.c1 p.c2 p.c3 p.c4 p.c4 p.c2 p.c1 p.c0 p.c3) 5) (true)) (must (must (K 0 (.cons 2 (.sl 1 0 5 (.ex 5)) (.cons 0 (.ptr 0 0) .nil)) (Rs5n p.l p.com p.sh p.c0 p.c1 p.c2 p.c3 p.c4 p.c4 p.c2 p.c1 p.c3 p.c0) 5) (true)) (true))) (must (must (must (K 0 (.cons 2 (.sl 1 0 5 (.ex 5)) (.cons 0 (.ptr 0 0) .nil)) (Rs5n p.l p.com p.sh p.c0 p.c1 p.c2 p.c3 p.c4 p.c4 p.c2 p.c3 p.c0 p.c1) 5) (true)) (must (must (K 0 (.cons 2 (.sl 1 0 5 (.ex 5)) (.cons 0 (.ptr 0 0) .nil)) (Rs5n p.l p.com p.sh p.c0 p.c1 p.c2 p.c3 p.c4 p.c4 p.c2 p.c3 p.c1 p.c0) 5) (true)) (true))) (true)))) (must (must (must (must (K 0 (.cons 2 (.sl 1 0 5 (.ex 5)) (.cons 0 (.ptr 0 0) .nil)) (Rs5n p.l p.com p.sh p.c0 p.c1 p.c2 p.c3 p.c4 p.c4 p.c3 p.c0 p.c1 p.c2) 5) (true)) (must (must (K 0 (.cons 2 (.sl 1 0 5 (.ex 5)) (.cons 0 (.ptr 0 0) .nil)) (Rs5n p.l p.com p.sh p.c0 p.c1 p.c2 p.c3 p.c4 p.c4 p.c3 p.c0 p.c2 p.c1) 5) (true)) (true))) (must (must (must (K 0 (.cons 2 (.sl 1 0 5 (.ex 5)) (.cons 0 (.ptr 0 0) .nil)) (Rs5n p.l p.com p.sh p.c0 p.c1 p.c2 p.c3 p.c4 p.c4 p.c3 p.c1 p.c0 p.c2) 5) (true)) (must (must (K 0 (.cons 2 (.sl 1 0 5 (.ex 5)) (.cons 0 (.ptr 0 0) .nil)) (Rs5n p.l p.com p.sh p.c0 p.c1 p.c2 p.c3 p.c4 p.c4 p.c3 p.c1 p.c2 p.c0) 5) (true)) (true))) (must (must (must (K 0 (.cons 2 (.sl 1 0 5 (.ex 5)) (.cons 0 (.ptr 0 0) .nil)) (Rs5n p.l p.com p.sh p.c0 p.c1 p.c2 p.c3 p.c4 p.c4 p.c3 p.c2 p.c0 p.c1) 5) (true)) (must (must (K 0 (.cons 2 (.sl 1 0 5 (.ex 5)) (.cons 0 (.ptr 0 0) .nil)) (Rs5n p.l p.com p.sh p.c0 p.c1 p.c2 p.c3 p.c4 p.c4 p.c3 p.c2 p.c1 p.c0) 5) (true)) (true))) (true)))) (true))))) (true))))))) (by kernel_rfl) ?_
 obtain ⟨l, com, sh, c0, c1, c2, c3, c4⟩ := p; dsimp only; repeat' (first | exact fin_rg5 hK ⟨_, _, _, _, _⟩ (by dsimp only [po_rg5]; intro v; simp only [List.count_cons, List.count_nil] <;> omega) | refine must_mk ?_ ?_ | refine mI rfl ?_ | exact rfl)
theorem lo_rg5 : LpOk Try.prog 58 1 lp_settle5 false 0 bd_rg5 := by
 refine sp_of (lf := 600) tb_mix (cfT_ok nat_settle4_ok) (by rfl) (fun b j x h => by cases h) (fun S M nx K h => ?_)
 obtain ⟨p, h⟩ := exB_ok h
 obtain ⟨e, h9⟩ := mustP_ok h
 clear h
 have e1 : S = (I_rg5 p).1 := congrArg Prod.fst e
 have e2 : M = (I_rg5 p).2.1 := congrArg (fun x => x.2.1) e
 have e3 : nx = (I_rg5 p).2.2 := congrArg (fun x => x.2.2) e
 subst e1; subst e2; subst e3
 exact vb_rg5 p K h9
structure A_settle5 where
 l : List Int
 com : Int
 sh : Prop
 c0 : Int
 c1 : Int
 c2 : Int
 c3 : Int
 c4 : Int
structure R_settle5 where
 com : Int
def po_settle5 (p : A_settle5) (r : R_settle5) : Prop := comR 3 p.com r.com [(p.l.length : Int), p.c1, p.c2, p.c3, p.c4]
noncomputable def I_settle5 (p : A_settle5) : IE := ([.ptr 0 0], (Ro5n p.l p.com p.sh p.c0 p.c1 p.c2 p.c3 p.c4), 4)
noncomputable def out_settle5 (p : A_settle5) (K : KE) : Bool := allB fun r : R_settle5 => iP (po_settle5 p r) (K (.tup []) (Ro5n p.l r.com p.sh (p.l.length : Int) p.c1 p.c2 p.c3 p.c4) 4) true
theorem fin_settle5 {p : A_settle5} {K : KE} (hK : out_settle5 p K = true) (r : R_settle5) (h : po_settle5 p r) : K (.tup []) (Ro5n p.l r.com p.sh (p.l.length : Int) p.c1 p.c2 p.c3 p.c4) 4 = true := ifB_use h (allB_ok hK r)
theorem vf_settle5 (p : A_settle5) (K : KE) (hK : out_settle5 p K = true) : (funE 1 (cfT nat_settle4) lp_settle5 600 ft_settle5 (I_settle5 p).1 (I_settle5 p).2.1 (I_settle5 p).2.2 K) = true := by
 refine Eq.trans (b := (exB fun p1 : A_rg5 => mP (((.cons 2 (.sl 1 0 0 (.ex 5)) (.cons 0 (.ptr 0 0) .nil)), (.node (.node (.node .leaf (some (.prow 45 18 Int p.l encK)) .leaf) (some (.blk false 3 1 [[.int 0 (.ofNat 0)], [.int 0 (.ofNat 0)], [.int 0 (.ofNat 0)], [.int 0 (.ofNat 0)], [.int 0 (.ofNat 0)]])) .leaf) (some (.blk false 67 10 [[.int 1 (.ofNat 0), .int 3 (.ofNat 1), .sl 2 0 5 (.rest 0), .int 1 (.ofNat 0), .int 2 (.ofNat 1), .sy (.prow 3 p.l.length), .int 0 (.ofNat 0), .sy (.int 0 p.com), .sy (.bool p.sh), .map 4]])) (.node (.node .leaf (some (.map [(.agg [.int 1 (.ofNat 0), .int 2 (.ofNat 1)], .sy (.int 0 (p.l.length : Int)), 0), (.agg [.int 1 (.ofNat 1), .int 2 (.ofNat 1)], .sy (.int 0 p.c1), 1), (.agg [.int 1 (.ofNat 2), .int 2 (.ofNat 1)], .sy (.int 0 p.c2), 2), (.agg [.int 1 (.ofNat 3), .int 2 (.ofNat 1)], .sy (.int 0 p.c3), 3), (.agg [.int 1 (.ofNat 4), .int 2 (.ofNat 1)], .sy (.int 0 p.c4), 4)] 5)) .leaf) (some (.blk true 31 2 [[.int 1 (.ofNat 0), .int 2 (.ofNat 1)], [.int 1 (.ofNat 1), .int 2 (.ofNat 1)], [.int 1 (.ofNat 2), .int 2 (.ofNat 1)], [.int 1 (.ofNat 3), .int 2 (.ofNat 1)], [.int 1 (.ofNat 4), .int 2 (.ofNat 1)]])) .leaf)), 5) = I_rg5 p1) (allB fun r1 : R_rg5 => iP (po_rg5 p1 r1) (exB fun p2 : A_sort5 => mP (([.sl 0 0 5 (.ex 5)], (Sb5 r1.v0 r1.v1 r1.v2 r1.v3 r1.v4), 1) = I_sort5 p2) (allB fun r2 : R_sort5 => iP (po_sort5 p2 r2) (mP (((.int 0 p1.com) : SY) = (.int 0 p1.com)) (K (.tup []) (Ro5n p1.l (max p1.com r2.y2) p1.sh p1.c0 p1.c1 p1.c2 p1.c3 p1.c4) 4)) true)) true))) (by kernel_rfl) ?_
 refine callR (⟨p.l, p.com, p.sh, (p.l.length : Int), p.c1, p.c2, p.c3, p.c4⟩ : A_rg5) rfl fun r1 hi1 => ?_
 dsimp only [po_rg5] at hi1
 refine callR (⟨r1.v0, r1.v1, r1.v2, r1.v3, r1.v4⟩ : A_sort5) rfl fun r2 hi2 => ?_
 dsimp only [po_sort5] at hi2
 refine mI (rfl) ?_
 exact fin_settle5 hK ⟨max p.com r2.y2⟩ (by dsimp only [po_settle5] <;> (obtain ⟨s0, s1, s2, s3, s4⟩ := hi2; refine ⟨r2.y2, rfl, ?_⟩; rw [fcount (fun v => ((s4 v).trans (hi1 v)).symm)]; exact fsuf (a := [r2.y0, r2.y1]) (b := [r2.y2, r2.y3, r2.y4]) (by intro x hx; simp only [List.mem_cons, List.not_mem_nil, or_false] at hx; simp only [decide_eq_true_eq]; omega)))
noncomputable def ec_settle5 : SpecE := tstE (elB 1 5) (esOf I_settle5 out_settle5) ec_settle4
theorem nc_settle5 : NatE Try.prog 37 1 ec_settle5 := tstE_ok (natE_said (f := 37) (k := 1) (lp := lp_settle5) (lf := 600) tb_mix (cfT_ok nat_settle4_ok) ft_settle5_ok (by rfl) (fun b j x h => (mem_step lo_rg5 (fun h => (by cases h)) h)) fun p K h => vf_settle5 p K h) nc_settle4
noncomputable def nat_settle5 := natC nat_settle4 1 ec_settle5 37 [(0, 4)]
theorem nat_settle5_ok : NatsOk Try.prog nat_settle5 := natC_ok nc_settle5 nat_settle4_ok
theorem tk {α : Type} {l : List α} {i : Nat} {x : α} (h : l[i]? = some x) : l.take i ++ [x] = l.take (i + 1) := by rw [List.take_add_one, h]; rfl
theorem tkd {α : Type} {l : List α} {a i : Nat} {x : α} (h : l[a + i]? = some x) : (l.drop a).take i ++ [x] = (l.drop a).take (i + 1) := tk (by rw [List.getElem?_drop]; exact h)
def ft_clones_prow : XF := .mk 27 (.one 2) (.seq (g_ 1 [p_ 0 2 (.mv (.c .nilS))]) (.seq (g_ 4 [p_ 0 6 (m_ 0), p_ 1 7 (k_ 6), e_ 2 8 (.mks 45 18 104 [.int 1 (.ofNat 0), .int 1 (.ofNat 0), .int 2 (.ofNat 0), .int 3 (.ofNat 0), .int 1 (.ofNat 0), .int 1 (.ofNat 0), .int 1 (.ofNat 0), .int 1 (.ofNat 0), .int 1 (.ofNat 0), .int 1 (.ofNat 0), .int 1 (.ofNat 0), .int 3 (.ofNat 0), .nilS, .int 1 (.ofNat 0), .str [], .nilS, .int 1 (.ofNat 0), .int 2 (.ofNat 0)] (i_ 0) (.t 7)), p_ 3 3 (m_ 8)]) (.seq (.seq (g_ 3 [p_ 0 9 (m_ 0), p_ 1 10 (k_ 9), p_ 2 11 (.mv (i_ 0))]) (.block 2 (.pre [.can 1 [3, 9, 10, 11], .born 3 45 18 Int encK, .up 11, .can 1 [3, 9, 10, 11]] (.inv 0 (.aft (.seq (g_ 1 [p_ 0 12 (.bin 3 0 (.t 11) (.t 10))]) (.seq (.cond (.t 12) .skip (.exit 2)) (.seq (.block 3 (.seq (g_ 4 [p_ 0 13 (.ixs 18 (.t 9) (.t 11)), r_ 1 14 (.ld true 18 (.t 13)), e_ 2 5 (.al 45 [.int 1 (.ofNat 0), .int 1 (.ofNat 0), .int 2 (.ofNat 0), .int 3 (.ofNat 0), .int 1 (.ofNat 0), .int 1 (.ofNat 0), .int 1 (.ofNat 0), .int 1 (.ofNat 0), .int 1 (.ofNat 0), .int 1 (.ofNat 0), .int 1 (.ofNat 0), .int 3 (.ofNat 0), .nilS, .int 1 (.ofNat 0), .str [], .nilS, .int 1 (.ofNat 0), .int 2 (.ofNat 0)]), e0_ 3 (.st 18 (.t 5) (.t 14))]) (g_ 6 [p_ 0 15 (m_ 3), r_ 1 16 (.ld true 18 (.t 5)), c_ 2 17 36 [.t 16], e_ 3 18 (.bsl 45 18 1 [.int 1 (.ofNat 0), .int 1 (.ofNat 0), .int 2 (.ofNat 0), .int 3 (.ofNat 0), .int 1 (.ofNat 0), .int 1 (.ofNat 0), .int 1 (.ofNat 0), .int 1 (.ofNat 0), .int 1 (.ofNat 0), .int 1 (.ofNat 0), .int 1 (.ofNat 0), .int 3 (.ofNat 0), .nilS, .int 1 (.ofNat 0), .str [], .nilS, .int 1 (.ofNat 0), .int 2 (.ofNat 0)] [(0, 18)] [.t 17]), e_ 4 19 (.app 45 18 104 (.t 15) (.t 18)), p_ 5 3 (m_ 19)]))) (g_ 2 [p_ 0 20 (.bin 0 0 (.t 11) (i_ 1)), p_ 1 11 (m_ 20)])))) [(0, [.can 1 [3, 9, 10, 11]]), (2, [.can 1 [3]])]))))) (.seq (g_ 7 [p_ 0 21 (m_ 3), p_ 1 22 (m_ 3), p_ 2 23 (k_ 22), p_ 3 24 (m_ 3), p_ 4 25 (k_ 24), r_ 5 26 (.sls 18 (.t 21) none (some (.t 23)) (some (.t 25))), p_ 6 2 (m_ 26)]) .ret))))
theorem ft_clones_prow_ok : chkF Try.prog 33 ft_clones_prow = true := by kernel_rfl
structure A_l_clones_prow where
 l : List Int
 o : List Int
 i : Int
structure R_l_clones_prow where
 o : List Int
def po_l_clones_prow (p : A_l_clones_prow) (r : R_l_clones_prow) : Prop := r.o = p.l ∧ r.o.length = p.l.length
noncomputable def I_l_clones_prow (p : A_l_clones_prow) : IL := ((.cons 11 (.sy (.int 0 p.i)) (.cons 10 (.sy (.int 0 (p.l.length : Int))) (.cons 9 (.sy (.prow 0 p.l.length)) (.cons 3 (.sy (.prow 1 p.o.length)) .nil)))), (.node (.node .leaf (some (.prow 45 18 Int p.o encK)) .leaf) (some (.prow 45 18 Int p.l encK)) .leaf), 2)
noncomputable def out_l_clones_prow (p : A_l_clones_prow) (K : KC) : Bool := allB fun r : R_l_clones_prow => iP (po_l_clones_prow p r) (K 2 (.cons 3 (.sy (.prow 1 r.o.length)) .nil) (.node (.node .leaf (some (.prow 45 18 Int r.o encK)) .leaf) (some (.prow 45 18 Int p.l encK)) .leaf) 2) true
def pre_l_clones_prow (p : A_l_clones_prow) : Prop := p.l.length ≤ 1000000 ∧ 0 ≤ p.i ∧ p.i ≤ (p.l.length : Int) ∧ p.o = p.l.take p.i.toNat
theorem fin_l_clones_prow {p : A_l_clones_prow} {K : KC} (hK : out_l_clones_prow p K = true) (r : R_l_clones_prow) (h : po_l_clones_prow p r) : K 2 (.cons 3 (.sy (.prow 1 r.o.length)) .nil) (.node (.node .leaf (some (.prow 45 18 Int r.o encK)) .leaf) (some (.prow 45 18 Int p.l encK)) .leaf) 2 = true := ifB_use h (allB_ok hK r)
noncomputable def sp_l_clones_prow (p : A_l_clones_prow) (K : KC) : Bool := must (prB (pre_l_clones_prow p)) (out_l_clones_prow p K)
noncomputable def lp_clones_prow : LpF := fun j S M nx K => (Bool.rec (false) (exB fun p : A_l_clones_prow => must (prB ((S, M, nx) = I_l_clones_prow p)) (sp_l_clones_prow p K)) (Nat.beq j 0))
def mu_l_clones_prow (p : A_l_clones_prow) : Nat := ((p.l.length : Int) - p.i).toNat
theorem bk_l_clones_prow {p q : A_l_clones_prow} {K : KC} {s : IL} (hm : mu_l_clones_prow q < mu_l_clones_prow p) (hp : pre_l_clones_prow q) (hK : out_l_clones_prow q K = true) (e : s = I_l_clones_prow q) : (exB fun q => mP (s = I_l_clones_prow q ∧ mu_l_clones_prow q < mu_l_clones_prow p) (sp_l_clones_prow q K)) = true := exB_mk q (mustP ⟨e, hm⟩ (mustP hp hK))
def bd_l_clones_prow : XC := (.aft (.seq (g_ 1 [p_ 0 12 (.bin 3 0 (.t 11) (.t 10))]) (.seq (.cond (.t 12) .skip (.exit 2)) (.seq (.block 3 (.seq (g_ 4 [p_ 0 13 (.ixs 18 (.t 9) (.t 11)), r_ 1 14 (.ld true 18 (.t 13)), e_ 2 5 (.al 45 [.int 1 (.ofNat 0), .int 1 (.ofNat 0), .int 2 (.ofNat 0), .int 3 (.ofNat 0), .int 1 (.ofNat 0), .int 1 (.ofNat 0), .int 1 (.ofNat 0), .int 1 (.ofNat 0), .int 1 (.ofNat 0), .int 1 (.ofNat 0), .int 1 (.ofNat 0), .int 3 (.ofNat 0), .nilS, .int 1 (.ofNat 0), .str [], .nilS, .int 1 (.ofNat 0), .int 2 (.ofNat 0)]), e0_ 3 (.st 18 (.t 5) (.t 14))]) (g_ 6 [p_ 0 15 (m_ 3), r_ 1 16 (.ld true 18 (.t 5)), c_ 2 17 36 [.t 16], e_ 3 18 (.bsl 45 18 1 [.int 1 (.ofNat 0), .int 1 (.ofNat 0), .int 2 (.ofNat 0), .int 3 (.ofNat 0), .int 1 (.ofNat 0), .int 1 (.ofNat 0), .int 1 (.ofNat 0), .int 1 (.ofNat 0), .int 1 (.ofNat 0), .int 1 (.ofNat 0), .int 1 (.ofNat 0), .int 3 (.ofNat 0), .nilS, .int 1 (.ofNat 0), .str [], .nilS, .int 1 (.ofNat 0), .int 2 (.ofNat 0)] [(0, 18)] [.t 17]), e_ 4 19 (.app 45 18 104 (.t 15) (.t 18)), p_ 5 3 (m_ 19)]))) (g_ 2 [p_ 0 20 (.bin 0 0 (.t 11) (i_ 1)), p_ 1 11 (m_ 20)])))) [(0, [.can 1 [3, 9, 10, 11]]), (2, [.can 1 [3]])])
theorem vb_l_clones_prow (p : A_l_clones_prow) (K : KC) (hpre : pre_l_clones_prow p) (hK : out_l_clones_prow p K = true) : (codeX (cfT nat_settle5) lp_clones_prow 600 bd_l_clones_prow (I_l_clones_prow p).1 (I_l_clones_prow p).2.1 (I_l_clones_prow p).2.2 (fun e S M nx => Nat.casesOn e (exB fun q : A_l_clones_prow => must (prB ((S, M, nx) = I_l_clones_prow q ∧ mu_l_clones_prow q < mu_l_clones_prow p)) (sp_l_clones_prow q K)) (fun e2 => K (Nat.succ e2) S M nx))) = true := by
 refine Eq.trans (b := (iP (p.i < (p.l.length : Int)) (mP (0 ≤ p.i ∧ p.i < (p.l.length : Int)) (mP (p.i.toNat < p.l.length) (allB fun x1 : Int => iP (p.l[p.i.toNat]? = some x1) (mP (p.o.length = p.o.length) (exB fun m1 : List Int => mP (rowsR (m1.map encK) [[.int 1 (.ofNat 2), .int 1 (.ofNat 0), .int 2 (.ofNat 0), .int 3 (.ofNat 0), .int 1 (.ofNat 0), .int 1 (.ofNat 0), .int 1 (.ofNat 0), .int 1 (.ofNat 0), .int 1 (.ofNat 0), .int 1 (.ofNat 0), .int 1 (.ofNat 0), .int 3 (.ofNat 0), .nilS, .int 1 (.ofNat 0), .str [], .nilS, .sint 1 x1, .int 2 (.ofNat 1)]]) (mP (limP 104 (p.o.length + m1.length)) (mP (InR 0 (p.i + (1 : Int))) (exB fun q1 : A_l_clones_prow => mP (((.cons 11 (.sy (.int 0 (p.i + (1 : Int)))) (.cons 10 (.sy (.int 0 (p.l.length : Int))) (.cons 9 (.sy (.prow 0 p.l.length)) (.cons 3 (.sy (.prow 1 ((p.o ++ m1).length))) .nil)))), (.node (.node .leaf (some (.prow 45 18 Int (p.o ++ m1) encK)) .leaf) (some (.prow 45 18 Int p.l encK)) .leaf), 2) = I_l_clones_prow q1 ∧ mu_l_clones_prow q1 < mu_l_clones_prow p) (sp_l_clones_prow q1 K)))))) true))) (K 2 (.cons 3 (.sy (.prow 1 p.o.length)) .nil) (.node (.node .leaf (some (.prow 45 18 Int p.o encK)) .leaf) (some (.prow 45 18 Int p.l encK)) .leaf) 2))) (by kernel_rfl) ?_
 dsimp only [pre_l_clones_prow] at hpre
 obtain ⟨g0, g1, g2, g3⟩ := hpre
 refine iI (fun hc1 => ?_) (fun hc1 => ?_)
 refine mI (by first | omega | (constructor <;> omega)) (mI (by omega) ?_)
 refine allB_mk (fun x1 => ?_)
 refine iI (fun hi2 => ?_) (fun _ => rfl)
 refine mI (rfl) ?_
 refine exB_mk [x1] ?_
 refine mI (show rowsR ([x1].map encK) [[.int 1 (.ofNat 2), .int 1 (.ofNat 0), .int 2 (.ofNat 0), .int 3 (.ofNat 0), .int 1 (.ofNat 0), .int 1 (.ofNat 0), .int 1 (.ofNat 0), .int 1 (.ofNat 0), .int 1 (.ofNat 0), .int 1 (.ofNat 0), .int 1 (.ofNat 0), .int 3 (.ofNat 0), .nilS, .int 1 (.ofNat 0), .str [], .nilS, .sint 1 x1, .int 2 (.ofNat 1)]] from ⟨⟨.inl rfl, ⟨.inl rfl, ⟨.inl rfl, ⟨.inl rfl, ⟨.inl rfl, ⟨.inl rfl, ⟨.inl rfl, ⟨.inl rfl, ⟨.inl rfl, ⟨.inl rfl, ⟨.inl rfl, ⟨.inl rfl, ⟨.inl rfl, ⟨.inl rfl, ⟨.inl rfl, ⟨.inl rfl, ⟨.inl rfl, ⟨.inl rfl, trivial⟩⟩⟩⟩⟩⟩⟩⟩⟩⟩⟩⟩⟩⟩⟩⟩⟩⟩, trivial⟩) ?_
 refine mI (by simp only [limP, List.length_cons, List.length_nil, g3, List.length_take]; omega) (mI (by simp only [InR]; omega) ?_)
 exact bk_l_clones_prow (q := ⟨p.l, p.o ++ [x1], p.i + (1 : Int)⟩) (by dsimp only [mu_l_clones_prow]; omega) (by dsimp only [pre_l_clones_prow]; refine ⟨g0, by omega, by omega, ?_⟩; rw [show (p.i + 1).toNat = p.i.toNat + 1 by omega, g3]; exact tk (by assumption)) hK rfl
 exact fin_l_clones_prow hK ⟨p.o⟩ (by dsimp only [po_l_clones_prow] <;> (have e : p.o = p.l := (by rw [g3]; exact List.take_of_length_le (by omega)); exact ⟨e, by (first | (rw [e]; done) | (rw [e]; simp; omega))⟩))
theorem lo_l_clones_prow : LpOk Try.prog 27 1 lp_clones_prow true 0 bd_l_clones_prow := by
 exact lp_of (lf := 600) tb_mix (cfT_ok nat_settle5_ok) (by rfl) I_l_clones_prow mu_l_clones_prow sp_l_clones_prow (fun b j x h => by cases h) (fun S M nx K h => by obtain ⟨p, h⟩ := exB_ok h; exact ⟨p, (mustP_ok h).1, (mustP_ok h).2⟩) (fun p K h => vb_l_clones_prow p K (mustP_ok h).1 (mustP_ok h).2)
structure A_clones_prow where
 l : List Int
structure R_clones_prow where
 o : List Int
def po_clones_prow (p : A_clones_prow) (r : R_clones_prow) : Prop := r.o = p.l ∧ r.o.length = p.l.length
noncomputable def I_clones_prow (p : A_clones_prow) : IE := ([.sy (.prow 0 p.l.length)], (.node .leaf (some (.prow 45 18 Int p.l encK)) .leaf), 1)
noncomputable def out_clones_prow (p : A_clones_prow) (K : KE) : Bool := allB fun r : R_clones_prow => iP (po_clones_prow p r) (K (.sy (.pfix 1 r.o.length r.o.length)) (.node (.node .leaf (some (.prow 45 18 Int r.o encK)) .leaf) (some (.prow 45 18 Int p.l encK)) .leaf) 2) true
def pre_clones_prow (p : A_clones_prow) : Prop := p.l.length ≤ 1000000
theorem fin_clones_prow {p : A_clones_prow} {K : KE} (hK : out_clones_prow p K = true) (r : R_clones_prow) (h : po_clones_prow p r) : K (.sy (.pfix 1 r.o.length r.o.length)) (.node (.node .leaf (some (.prow 45 18 Int r.o encK)) .leaf) (some (.prow 45 18 Int p.l encK)) .leaf) 2 = true := ifB_use h (allB_ok hK r)
theorem vf_clones_prow (p : A_clones_prow) (K : KE) (hpre : pre_clones_prow p) (hK : out_clones_prow p K = true) : (funE 1 (cfT nat_settle5) lp_clones_prow 600 ft_clones_prow (I_clones_prow p).1 (I_clones_prow p).2.1 (I_clones_prow p).2.2 K) = true := by
 refine Eq.trans (b := (mP ((0 : Int) = 0 ∧ 0 ≤ (p.l.length : Int) ∧ (p.l.length : Int) ≤ 9223372036854775807 ∧ ((104 : Nat) : Int) * (p.l.length : Int) ≤ 140737488355328) (mP (([] : List Unit) = []) (useC (((.cons 11 (.sy (.int 0 0)) (.cons 10 (.sy (.int 0 (p.l.length : Int))) (.cons 9 (.sy (.prow 0 p.l.length)) (.cons 3 (.sy (.prow 1 0)) .nil)))), (.node (.node .leaf (some (.prow 45 18 Int ([] : List Int) encK)) .leaf) (some (.prow 45 18 Int p.l encK)) .leaf), 2)) I_l_clones_prow pre_l_clones_prow po_l_clones_prow fun p1 r1 => mP (r1.o.length = r1.o.length ∧ (0 : Int) = 0 ∧ (r1.o.length : Int) = (r1.o.length : Int) ∧ (r1.o.length : Int) = (r1.o.length : Int)) (K (.sy (.pfix 1 r1.o.length r1.o.length)) (.node (.node .leaf (some (.prow 45 18 Int r1.o encK)) .leaf) (some (.prow 45 18 Int p1.l encK)) .leaf) 2))))) (by kernel_rfl) ?_
 dsimp only [pre_clones_prow] at hpre
 have h1 := hpre
 refine mI (⟨rfl, by omega⟩) (mI (rfl) ?_)
 refine callPR (⟨p.l, ([] : List Int), (0 : Int)⟩ : A_l_clones_prow) rfl (by (try dsimp only [pre_l_clones_prow]); refine ⟨h1, by omega, by omega, rfl⟩) fun r1 hi1 => ?_
 dsimp only [po_l_clones_prow] at hi1
 refine mI (by first | omega | (simp; done) | (simp; omega)) ?_
 exact fin_clones_prow hK ⟨r1.o⟩ (by dsimp only [po_clones_prow] <;> assumption)
noncomputable def nat_clones_prow := natC nat_settle5 1 (esOf I_clones_prow (spP pre_clones_prow out_clones_prow)) 33 [(0, 25)]
theorem nat_clones_prow_ok : NatsOk Try.prog nat_clones_prow := natC_ok (natE_said (f := 33) (k := 1) (lp := lp_clones_prow) (lf := 600) tb_mix (cfT_ok nat_settle5_ok) ft_clones_prow_ok (by rfl) (fun b j x h => (mem_step lo_l_clones_prow (fun h => (by cases h)) h)) fun p K h => vf_clones_prow p K (mustP_ok h).1 (mustP_ok h).2) nat_settle5_ok
def ft_clones_psub : XF := ft_clones_prow
theorem ft_clones_psub_ok : chkF Try.prog 33 ft_clones_psub = true := ft_clones_prow_ok
structure A_l_clones_psub where
 l : List Int
 a : Nat
 n : Nat
 o : List Int
 i : Int
structure R_l_clones_psub where
 o : List Int
def po_l_clones_psub (p : A_l_clones_psub) (r : R_l_clones_psub) : Prop := r.o = (p.l.drop p.a).take p.n ∧ r.o.length = p.n
noncomputable def I_l_clones_psub (p : A_l_clones_psub) : IL := ((.cons 11 (.sy (.int 0 p.i)) (.cons 10 (.sy (.int 0 (p.n : Int))) (.cons 9 (.sy (.psub 0 18 p.a p.n)) (.cons 3 (.sy (.prow 1 p.o.length)) .nil)))), (.node (.node .leaf (some (.prow 45 18 Int p.o encK)) .leaf) (some (.prow 45 18 Int p.l encK)) .leaf), 2)
noncomputable def out_l_clones_psub (p : A_l_clones_psub) (K : KC) : Bool := allB fun r : R_l_clones_psub => iP (po_l_clones_psub p r) (K 2 (.cons 3 (.sy (.prow 1 r.o.length)) .nil) (.node (.node .leaf (some (.prow 45 18 Int r.o encK)) .leaf) (some (.prow 45 18 Int p.l encK)) .leaf) 2) true
def pre_l_clones_psub (p : A_l_clones_psub) : Prop := p.a + p.n ≤ p.l.length ∧ p.n ≤ 1000000 ∧ 0 ≤ p.i ∧ p.i ≤ (p.n : Int) ∧ p.o = (p.l.drop p.a).take p.i.toNat
theorem fin_l_clones_psub {p : A_l_clones_psub} {K : KC} (hK : out_l_clones_psub p K = true) (r : R_l_clones_psub) (h : po_l_clones_psub p r) : K 2 (.cons 3 (.sy (.prow 1 r.o.length)) .nil) (.node (.node .leaf (some (.prow 45 18 Int r.o encK)) .leaf) (some (.prow 45 18 Int p.l encK)) .leaf) 2 = true := ifB_use h (allB_ok hK r)
noncomputable def sp_l_clones_psub (p : A_l_clones_psub) (K : KC) : Bool := must (prB (pre_l_clones_psub p)) (out_l_clones_psub p K)
noncomputable def lp_clones_psub : LpF := fun j S M nx K => (Bool.rec (false) (exB fun p : A_l_clones_psub => must (prB ((S, M, nx) = I_l_clones_psub p)) (sp_l_clones_psub p K)) (Nat.beq j 0))
def mu_l_clones_psub (p : A_l_clones_psub) : Nat := ((p.n : Int) - p.i).toNat
theorem bk_l_clones_psub {p q : A_l_clones_psub} {K : KC} {s : IL} (hm : mu_l_clones_psub q < mu_l_clones_psub p) (hp : pre_l_clones_psub q) (hK : out_l_clones_psub q K = true) (e : s = I_l_clones_psub q) : (exB fun q => mP (s = I_l_clones_psub q ∧ mu_l_clones_psub q < mu_l_clones_psub p) (sp_l_clones_psub q K)) = true := exB_mk q (mustP ⟨e, hm⟩ (mustP hp hK))
def bd_l_clones_psub : XC := bd_l_clones_prow
theorem vb_l_clones_psub (p : A_l_clones_psub) (K : KC) (hpre : pre_l_clones_psub p) (hK : out_l_clones_psub p K = true) : (codeX (cfT nat_clones_prow) lp_clones_psub 600 bd_l_clones_psub (I_l_clones_psub p).1 (I_l_clones_psub p).2.1 (I_l_clones_psub p).2.2 (fun e S M nx => Nat.casesOn e (exB fun q : A_l_clones_psub => must (prB ((S, M, nx) = I_l_clones_psub q ∧ mu_l_clones_psub q < mu_l_clones_psub p)) (sp_l_clones_psub q K)) (fun e2 => K (Nat.succ e2) S M nx))) = true := by
 refine Eq.trans (b := (iP (p.i < (p.n : Int)) (mP (0 ≤ p.i ∧ p.i < (p.n : Int)) (mP ((p.a + p.i.toNat) < p.l.length) (allB fun x1 : Int => iP (p.l[p.a + p.i.toNat]? = some x1) (mP (p.o.length = p.o.length) (exB fun m1 : List Int => mP (rowsR (m1.map encK) [[.int 1 (.ofNat 2), .int 1 (.ofNat 0), .int 2 (.ofNat 0), .int 3 (.ofNat 0), .int 1 (.ofNat 0), .int 1 (.ofNat 0), .int 1 (.ofNat 0), .int 1 (.ofNat 0), .int 1 (.ofNat 0), .int 1 (.ofNat 0), .int 1 (.ofNat 0), .int 3 (.ofNat 0), .nilS, .int 1 (.ofNat 0), .str [], .nilS, .sint 1 x1, .int 2 (.ofNat 1)]]) (mP (limP 104 (p.o.length + m1.length)) (mP (InR 0 (p.i + (1 : Int))) (exB fun q1 : A_l_clones_psub => mP (((.cons 11 (.sy (.int 0 (p.i + (1 : Int)))) (.cons 10 (.sy (.int 0 (p.n : Int))) (.cons 9 (.sy (.psub 0 18 p.a p.n)) (.cons 3 (.sy (.prow 1 ((p.o ++ m1).length))) .nil)))), (.node (.node .leaf (some (.prow 45 18 Int (p.o ++ m1) encK)) .leaf) (some (.prow 45 18 Int p.l encK)) .leaf), 2) = I_l_clones_psub q1 ∧ mu_l_clones_psub q1 < mu_l_clones_psub p) (sp_l_clones_psub q1 K)))))) true))) (K 2 (.cons 3 (.sy (.prow 1 p.o.length)) .nil) (.node (.node .leaf (some (.prow 45 18 Int p.o encK)) .leaf) (some (.prow 45 18 Int p.l encK)) .leaf) 2))) (by kernel_rfl) ?_
 dsimp only [pre_l_clones_psub] at hpre
 obtain ⟨g0, g1, g2, g3, g4⟩ := hpre
 refine iI (fun hc1 => ?_) (fun hc1 => ?_)
 refine mI (by first | omega | (constructor <;> omega)) (mI (by omega) ?_)
 refine allB_mk (fun x1 => ?_)
 refine iI (fun hi2 => ?_) (fun _ => rfl)
 refine mI (rfl) ?_
 refine exB_mk [x1] ?_
 refine mI (show rowsR ([x1].map encK) [[.int 1 (.ofNat 2), .int 1 (.ofNat 0), .int 2 (.ofNat 0), .int 3 (.ofNat 0), .int 1 (.ofNat 0), .int 1 (.ofNat 0), .int 1 (.ofNat 0), .int 1 (.ofNat 0), .int 1 (.ofNat 0), .int 1 (.ofNat 0), .int 1 (.ofNat 0), .int 3 (.ofNat 0), .nilS, .int 1 (.ofNat 0), .str [], .nilS, .sint 1 x1, .int 2 (.ofNat 1)]] from ⟨⟨.inl rfl, ⟨.inl rfl, ⟨.inl rfl, ⟨.inl rfl, ⟨.inl rfl, ⟨.inl rfl, ⟨.inl rfl, ⟨.inl rfl, ⟨.inl rfl, ⟨.inl rfl, ⟨.inl rfl, ⟨.inl rfl, ⟨.inl rfl, ⟨.inl rfl, ⟨.inl rfl, ⟨.inl rfl, ⟨.inl rfl, ⟨.inl rfl, trivial⟩⟩⟩⟩⟩⟩⟩⟩⟩⟩⟩⟩⟩⟩⟩⟩⟩⟩, trivial⟩) ?_
 refine mI (by simp only [limP, List.length_cons, List.length_nil, g4, List.length_take, List.length_drop]; omega) (mI (by simp only [InR]; omega) ?_)
 exact bk_l_clones_psub (q := ⟨p.l, p.a, p.n, p.o ++ [x1], p.i + (1 : Int)⟩) (by dsimp only [mu_l_clones_psub]; omega) (by dsimp only [pre_l_clones_psub]; refine ⟨g0, g1, by omega, by omega, ?_⟩; rw [show (p.i + 1).toNat = p.i.toNat + 1 by omega, g4]; exact tkd (by assumption)) hK rfl
 exact fin_l_clones_psub hK ⟨p.o⟩ (by dsimp only [po_l_clones_psub] <;> (have e : p.o = (p.l.drop p.a).take p.n := (by rw [g4]; exact congrArg (fun m => List.take m _) (by omega)); exact ⟨e, by (first | (rw [e]; done) | (rw [e]; simp; omega))⟩))
theorem lo_l_clones_psub : LpOk Try.prog 27 1 lp_clones_psub true 0 bd_l_clones_psub := by
 exact lp_of (lf := 600) tb_mix (cfT_ok nat_clones_prow_ok) (by rfl) I_l_clones_psub mu_l_clones_psub sp_l_clones_psub (fun b j x h => by cases h) (fun S M nx K h => by obtain ⟨p, h⟩ := exB_ok h; exact ⟨p, (mustP_ok h).1, (mustP_ok h).2⟩) (fun p K h => vb_l_clones_psub p K (mustP_ok h).1 (mustP_ok h).2)
structure A_clones_psub where
 l : List Int
 a : Nat
 n : Nat
structure R_clones_psub where
 o : List Int
def po_clones_psub (p : A_clones_psub) (r : R_clones_psub) : Prop := r.o = (p.l.drop p.a).take p.n ∧ r.o.length = p.n
noncomputable def I_clones_psub (p : A_clones_psub) : IE := ([.sy (.psub 0 18 p.a p.n)], (.node .leaf (some (.prow 45 18 Int p.l encK)) .leaf), 1)
noncomputable def out_clones_psub (p : A_clones_psub) (K : KE) : Bool := allB fun r : R_clones_psub => iP (po_clones_psub p r) (K (.sy (.pfix 1 r.o.length r.o.length)) (.node (.node .leaf (some (.prow 45 18 Int r.o encK)) .leaf) (some (.prow 45 18 Int p.l encK)) .leaf) 2) true
def pre_clones_psub (p : A_clones_psub) : Prop := p.a + p.n ≤ p.l.length ∧ p.n ≤ 1000000
theorem fin_clones_psub {p : A_clones_psub} {K : KE} (hK : out_clones_psub p K = true) (r : R_clones_psub) (h : po_clones_psub p r) : K (.sy (.pfix 1 r.o.length r.o.length)) (.node (.node .leaf (some (.prow 45 18 Int r.o encK)) .leaf) (some (.prow 45 18 Int p.l encK)) .leaf) 2 = true := ifB_use h (allB_ok hK r)
theorem vf_clones_psub (p : A_clones_psub) (K : KE) (hpre : pre_clones_psub p) (hK : out_clones_psub p K = true) : (funE 1 (cfT nat_clones_prow) lp_clones_psub 600 ft_clones_psub (I_clones_psub p).1 (I_clones_psub p).2.1 (I_clones_psub p).2.2 K) = true := by
 refine Eq.trans (b := (mP ((0 : Int) = 0 ∧ 0 ≤ (p.n : Int) ∧ (p.n : Int) ≤ 9223372036854775807 ∧ ((104 : Nat) : Int) * (p.n : Int) ≤ 140737488355328) (mP (([] : List Unit) = []) (useC (((.cons 11 (.sy (.int 0 0)) (.cons 10 (.sy (.int 0 (p.n : Int))) (.cons 9 (.sy (.psub 0 18 p.a p.n)) (.cons 3 (.sy (.prow 1 0)) .nil)))), (.node (.node .leaf (some (.prow 45 18 Int ([] : List Int) encK)) .leaf) (some (.prow 45 18 Int p.l encK)) .leaf), 2)) I_l_clones_psub pre_l_clones_psub po_l_clones_psub fun p1 r1 => mP (r1.o.length = r1.o.length ∧ (0 : Int) = 0 ∧ (r1.o.length : Int) = (r1.o.length : Int) ∧ (r1.o.length : Int) = (r1.o.length : Int)) (K (.sy (.pfix 1 r1.o.length r1.o.length)) (.node (.node .leaf (some (.prow 45 18 Int r1.o encK)) .leaf) (some (.prow 45 18 Int p1.l encK)) .leaf) 2))))) (by kernel_rfl) ?_
 dsimp only [pre_clones_psub] at hpre
 obtain ⟨h1, h2⟩ := hpre
 refine mI (⟨rfl, by omega⟩) (mI (rfl) ?_)
 refine callPR (⟨p.l, p.a, p.n, ([] : List Int), (0 : Int)⟩ : A_l_clones_psub) rfl (by (try dsimp only [pre_l_clones_psub]); refine ⟨h1, h2, by omega, by omega, rfl⟩) fun r1 hi1 => ?_
 dsimp only [po_l_clones_psub] at hi1
 refine mI (by first | omega | (simp; done) | (simp; omega)) ?_
 exact fin_clones_psub hK ⟨r1.o⟩ (by dsimp only [po_clones_psub] <;> assumption)
noncomputable def nat_clones_psub := natC nat_clones_prow 1 (esOf I_clones_psub (spP pre_clones_psub out_clones_psub)) 33 [(0, 26)]
theorem nat_clones_psub_ok : NatsOk Try.prog nat_clones_psub := natC_ok (natE_said (f := 33) (k := 1) (lp := lp_clones_psub) (lf := 600) tb_mix (cfT_ok nat_clones_prow_ok) ft_clones_psub_ok (by rfl) (fun b j x h => (mem_step lo_l_clones_psub (fun h => (by cases h)) h)) fun p K h => vf_clones_psub p K (mustP_ok h).1 (mustP_ok h).2) nat_clones_prow_ok
def ft_clones_imm : XF := .mk 27 (.one 2) (.seq (g_ 1 [p_ 0 2 (.mv (.c .nilS))]) (.seq (g_ 4 [p_ 0 6 (m_ 0), p_ 1 7 (k_ 6), e_ 2 8 (.mks 45 18 104 [.int 1 (.ofNat 0), .int 1 (.ofNat 0), .int 2 (.ofNat 0), .int 3 (.ofNat 0), .int 1 (.ofNat 0), .int 1 (.ofNat 0), .int 1 (.ofNat 0), .int 1 (.ofNat 0), .int 1 (.ofNat 0), .int 1 (.ofNat 0), .int 1 (.ofNat 0), .int 3 (.ofNat 0), .nilS, .int 1 (.ofNat 0), .str [], .nilS, .int 1 (.ofNat 0), .int 2 (.ofNat 0)] (i_ 0) (.t 7)), p_ 3 3 (m_ 8)]) (.seq (.seq (g_ 3 [p_ 0 9 (m_ 0), p_ 1 10 (k_ 9), p_ 2 11 (.mv (i_ 0))]) (.block 2 (.pre [.can 0 [3, 9, 10, 11], .born 3 45 18 Int encK, .up 11, .can 0 [3, 9, 10, 11]] (.inv 0 (.aft (.seq (g_ 1 [p_ 0 12 (.bin 3 0 (.t 11) (.t 10))]) (.seq (.cond (.t 12) .skip (.exit 2)) (.seq (.block 3 (.seq (g_ 4 [p_ 0 13 (.ixs 18 (.t 9) (.t 11)), r_ 1 14 (.ld true 18 (.t 13)), e_ 2 5 (.al 45 [.int 1 (.ofNat 0), .int 1 (.ofNat 0), .int 2 (.ofNat 0), .int 3 (.ofNat 0), .int 1 (.ofNat 0), .int 1 (.ofNat 0), .int 1 (.ofNat 0), .int 1 (.ofNat 0), .int 1 (.ofNat 0), .int 1 (.ofNat 0), .int 1 (.ofNat 0), .int 3 (.ofNat 0), .nilS, .int 1 (.ofNat 0), .str [], .nilS, .int 1 (.ofNat 0), .int 2 (.ofNat 0)]), e0_ 3 (.st 18 (.t 5) (.t 14))]) (g_ 6 [p_ 0 15 (m_ 3), r_ 1 16 (.ld true 18 (.t 5)), c_ 2 17 36 [.t 16], e_ 3 18 (.bsl 45 18 1 [.int 1 (.ofNat 0), .int 1 (.ofNat 0), .int 2 (.ofNat 0), .int 3 (.ofNat 0), .int 1 (.ofNat 0), .int 1 (.ofNat 0), .int 1 (.ofNat 0), .int 1 (.ofNat 0), .int 1 (.ofNat 0), .int 1 (.ofNat 0), .int 1 (.ofNat 0), .int 3 (.ofNat 0), .nilS, .int 1 (.ofNat 0), .str [], .nilS, .int 1 (.ofNat 0), .int 2 (.ofNat 0)] [(0, 18)] [.t 17]), e_ 4 19 (.app 45 18 104 (.t 15) (.t 18)), p_ 5 3 (m_ 19)]))) (g_ 2 [p_ 0 20 (.bin 0 0 (.t 11) (i_ 1)), p_ 1 11 (m_ 20)])))) [(0, [.can 0 [3, 9, 10, 11]]), (2, [.can 0 [3]])]))))) (.seq (g_ 7 [p_ 0 21 (m_ 3), p_ 1 22 (m_ 3), p_ 2 23 (k_ 22), p_ 3 24 (m_ 3), p_ 4 25 (k_ 24), r_ 5 26 (.sls 18 (.t 21) none (some (.t 23)) (some (.t 25))), p_ 6 2 (m_ 26)]) .ret))))
theorem ft_clones_imm_ok : chkF Try.prog 33 ft_clones_imm = true := by kernel_rfl
structure A_l_clones_imm where
 h : Value
 l : List Int
 o : List Int
 i : Int
structure R_l_clones_imm where
 o : List Int
def po_l_clones_imm (p : A_l_clones_imm) (r : R_l_clones_imm) : Prop := r.o = p.l ∧ r.o.length = p.l.length
noncomputable def I_l_clones_imm (p : A_l_clones_imm) : IL := ((.cons 11 (.sy (.int 0 p.i)) (.cons 10 (.sy (.int 0 (p.l.length : Int))) (.cons 9 (.sy (.imm p.h 18 Int p.l encK)) (.cons 3 (.sy (.prow 0 p.o.length)) .nil)))), (.node .leaf (some (.prow 45 18 Int p.o encK)) .leaf), 1)
noncomputable def out_l_clones_imm (p : A_l_clones_imm) (K : KC) : Bool := allB fun r : R_l_clones_imm => iP (po_l_clones_imm p r) (K 2 (.cons 3 (.sy (.prow 0 r.o.length)) .nil) (.node .leaf (some (.prow 45 18 Int r.o encK)) .leaf) 1) true
def pre_l_clones_imm (p : A_l_clones_imm) : Prop := p.l.length ≤ 1000000 ∧ 0 ≤ p.i ∧ p.i ≤ (p.l.length : Int) ∧ p.o = p.l.take p.i.toNat
theorem fin_l_clones_imm {p : A_l_clones_imm} {K : KC} (hK : out_l_clones_imm p K = true) (r : R_l_clones_imm) (h : po_l_clones_imm p r) : K 2 (.cons 3 (.sy (.prow 0 r.o.length)) .nil) (.node .leaf (some (.prow 45 18 Int r.o encK)) .leaf) 1 = true := ifB_use h (allB_ok hK r)
noncomputable def sp_l_clones_imm (p : A_l_clones_imm) (K : KC) : Bool := must (prB (pre_l_clones_imm p)) (out_l_clones_imm p K)
noncomputable def lp_clones_imm : LpF := fun j S M nx K => (Bool.rec (false) (exB fun p : A_l_clones_imm => must (prB ((S, M, nx) = I_l_clones_imm p)) (sp_l_clones_imm p K)) (Nat.beq j 0))
def mu_l_clones_imm (p : A_l_clones_imm) : Nat := ((p.l.length : Int) - p.i).toNat
theorem bk_l_clones_imm {p q : A_l_clones_imm} {K : KC} {s : IL} (hm : mu_l_clones_imm q < mu_l_clones_imm p) (hp : pre_l_clones_imm q) (hK : out_l_clones_imm q K = true) (e : s = I_l_clones_imm q) : (exB fun q => mP (s = I_l_clones_imm q ∧ mu_l_clones_imm q < mu_l_clones_imm p) (sp_l_clones_imm q K)) = true := exB_mk q (mustP ⟨e, hm⟩ (mustP hp hK))
def bd_l_clones_imm : XC := (.aft (.seq (g_ 1 [p_ 0 12 (.bin 3 0 (.t 11) (.t 10))]) (.seq (.cond (.t 12) .skip (.exit 2)) (.seq (.block 3 (.seq (g_ 4 [p_ 0 13 (.ixs 18 (.t 9) (.t 11)), r_ 1 14 (.ld true 18 (.t 13)), e_ 2 5 (.al 45 [.int 1 (.ofNat 0), .int 1 (.ofNat 0), .int 2 (.ofNat 0), .int 3 (.ofNat 0), .int 1 (.ofNat 0), .int 1 (.ofNat 0), .int 1 (.ofNat 0), .int 1 (.ofNat 0), .int 1 (.ofNat 0), .int 1 (.ofNat 0), .int 1 (.ofNat 0), .int 3 (.ofNat 0), .nilS, .int 1 (.ofNat 0), .str [], .nilS, .int 1 (.ofNat 0), .int 2 (.ofNat 0)]), e0_ 3 (.st 18 (.t 5) (.t 14))]) (g_ 6 [p_ 0 15 (m_ 3), r_ 1 16 (.ld true 18 (.t 5)), c_ 2 17 36 [.t 16], e_ 3 18 (.bsl 45 18 1 [.int 1 (.ofNat 0), .int 1 (.ofNat 0), .int 2 (.ofNat 0), .int 3 (.ofNat 0), .int 1 (.ofNat 0), .int 1 (.ofNat 0), .int 1 (.ofNat 0), .int 1 (.ofNat 0), .int 1 (.ofNat 0), .int 1 (.ofNat 0), .int 1 (.ofNat 0), .int 3 (.ofNat 0), .nilS, .int 1 (.ofNat 0), .str [], .nilS, .int 1 (.ofNat 0), .int 2 (.ofNat 0)] [(0, 18)] [.t 17]), e_ 4 19 (.app 45 18 104 (.t 15) (.t 18)), p_ 5 3 (m_ 19)]))) (g_ 2 [p_ 0 20 (.bin 0 0 (.t 11) (i_ 1)), p_ 1 11 (m_ 20)])))) [(0, [.can 0 [3, 9, 10, 11]]), (2, [.can 0 [3]])])
theorem vb_l_clones_imm (p : A_l_clones_imm) (K : KC) (hpre : pre_l_clones_imm p) (hK : out_l_clones_imm p K = true) : (codeX (cfT nat_clones_psub) lp_clones_imm 600 bd_l_clones_imm (I_l_clones_imm p).1 (I_l_clones_imm p).2.1 (I_l_clones_imm p).2.2 (fun e S M nx => Nat.casesOn e (exB fun q : A_l_clones_imm => must (prB ((S, M, nx) = I_l_clones_imm q ∧ mu_l_clones_imm q < mu_l_clones_imm p)) (sp_l_clones_imm q K)) (fun e2 => K (Nat.succ e2) S M nx))) = true := by
 refine Eq.trans (b := (iP (p.i < (p.l.length : Int)) (mP (0 ≤ p.i ∧ p.i < (p.l.length : Int)) (allB fun x1 : Int => iP (p.l[p.i.toNat]? = some x1) (mP (p.o.length = p.o.length) (exB fun m1 : List Int => mP (rowsR (m1.map encK) [[.int 1 (.ofNat 2), .int 1 (.ofNat 0), .int 2 (.ofNat 0), .int 3 (.ofNat 0), .int 1 (.ofNat 0), .int 1 (.ofNat 0), .int 1 (.ofNat 0), .int 1 (.ofNat 0), .int 1 (.ofNat 0), .int 1 (.ofNat 0), .int 1 (.ofNat 0), .int 3 (.ofNat 0), .nilS, .int 1 (.ofNat 0), .str [], .nilS, .sint 1 x1, .int 2 (.ofNat 1)]]) (mP (limP 104 (p.o.length + m1.length)) (mP (InR 0 (p.i + (1 : Int))) (exB fun q1 : A_l_clones_imm => mP (((.cons 11 (.sy (.int 0 (p.i + (1 : Int)))) (.cons 10 (.sy (.int 0 (p.l.length : Int))) (.cons 9 (.sy (.imm p.h 18 Int p.l encK)) (.cons 3 (.sy (.prow 0 ((p.o ++ m1).length))) .nil)))), (.node .leaf (some (.prow 45 18 Int (p.o ++ m1) encK)) .leaf), 1) = I_l_clones_imm q1 ∧ mu_l_clones_imm q1 < mu_l_clones_imm p) (sp_l_clones_imm q1 K)))))) true)) (K 2 (.cons 3 (.sy (.prow 0 p.o.length)) .nil) (.node .leaf (some (.prow 45 18 Int p.o encK)) .leaf) 1))) (by kernel_rfl) ?_
 dsimp only [pre_l_clones_imm] at hpre
 obtain ⟨g0, g1, g2, g3⟩ := hpre
 refine iI (fun hc1 => ?_) (fun hc1 => ?_)
 refine mI (by first | omega | (constructor <;> omega)) ?_
 refine allB_mk (fun x1 => ?_)
 refine iI (fun hi2 => ?_) (fun _ => rfl)
 refine mI (rfl) ?_
 refine exB_mk [x1] ?_
 refine mI (show rowsR ([x1].map encK) [[.int 1 (.ofNat 2), .int 1 (.ofNat 0), .int 2 (.ofNat 0), .int 3 (.ofNat 0), .int 1 (.ofNat 0), .int 1 (.ofNat 0), .int 1 (.ofNat 0), .int 1 (.ofNat 0), .int 1 (.ofNat 0), .int 1 (.ofNat 0), .int 1 (.ofNat 0), .int 3 (.ofNat 0), .nilS, .int 1 (.ofNat 0), .str [], .nilS, .sint 1 x1, .int 2 (.ofNat 1)]] from ⟨⟨.inl rfl, ⟨.inl rfl, ⟨.inl rfl, ⟨.inl rfl, ⟨.inl rfl, ⟨.inl rfl, ⟨.inl rfl, ⟨.inl rfl, ⟨.inl rfl, ⟨.inl rfl, ⟨.inl rfl, ⟨.inl rfl, ⟨.inl rfl, ⟨.inl rfl, ⟨.inl rfl, ⟨.inl rfl, ⟨.inl rfl, ⟨.inl rfl, trivial⟩⟩⟩⟩⟩⟩⟩⟩⟩⟩⟩⟩⟩⟩⟩⟩⟩⟩, trivial⟩) ?_
 refine mI (by simp only [limP, List.length_cons, List.length_nil, g3, List.length_take]; omega) (mI (by simp only [InR]; omega) ?_)
 exact bk_l_clones_imm (q := ⟨p.h, p.l, p.o ++ [x1], p.i + (1 : Int)⟩) (by dsimp only [mu_l_clones_imm]; omega) (by dsimp only [pre_l_clones_imm]; refine ⟨g0, by omega, by omega, ?_⟩; rw [show (p.i + 1).toNat = p.i.toNat + 1 by omega, g3]; exact tk (by assumption)) hK rfl
 exact fin_l_clones_imm hK ⟨p.o⟩ (by dsimp only [po_l_clones_imm] <;> (have e : p.o = p.l := (by rw [g3]; exact List.take_of_length_le (by omega)); exact ⟨e, by (first | (rw [e]; done) | (rw [e]; simp; omega))⟩))
theorem lo_l_clones_imm : LpOk Try.prog 27 0 lp_clones_imm true 0 bd_l_clones_imm := by
 exact lp_of (lf := 600) tb_mix (cfT_ok nat_clones_psub_ok) (by rfl) I_l_clones_imm mu_l_clones_imm sp_l_clones_imm (fun b j x h => by cases h) (fun S M nx K h => by obtain ⟨p, h⟩ := exB_ok h; exact ⟨p, (mustP_ok h).1, (mustP_ok h).2⟩) (fun p K h => vb_l_clones_imm p K (mustP_ok h).1 (mustP_ok h).2)
structure A_clones_imm where
 h : Value
 l : List Int
structure R_clones_imm where
 o : List Int
def po_clones_imm (p : A_clones_imm) (r : R_clones_imm) : Prop := r.o = p.l ∧ r.o.length = p.l.length
noncomputable def I_clones_imm (p : A_clones_imm) : IE := ([.sy (.imm p.h 18 Int p.l encK)], .leaf, 0)
noncomputable def out_clones_imm (p : A_clones_imm) (K : KE) : Bool := allB fun r : R_clones_imm => iP (po_clones_imm p r) (K (.sy (.pfix 0 r.o.length r.o.length)) (.node .leaf (some (.prow 45 18 Int r.o encK)) .leaf) 1) true
def pre_clones_imm (p : A_clones_imm) : Prop := p.l.length ≤ 1000000
theorem fin_clones_imm {p : A_clones_imm} {K : KE} (hK : out_clones_imm p K = true) (r : R_clones_imm) (h : po_clones_imm p r) : K (.sy (.pfix 0 r.o.length r.o.length)) (.node .leaf (some (.prow 45 18 Int r.o encK)) .leaf) 1 = true := ifB_use h (allB_ok hK r)
theorem vf_clones_imm (p : A_clones_imm) (K : KE) (hpre : pre_clones_imm p) (hK : out_clones_imm p K = true) : (funE 0 (cfT nat_clones_psub) lp_clones_imm 600 ft_clones_imm (I_clones_imm p).1 (I_clones_imm p).2.1 (I_clones_imm p).2.2 K) = true := by
 refine Eq.trans (b := (mP ((0 : Int) = 0 ∧ 0 ≤ (p.l.length : Int) ∧ (p.l.length : Int) ≤ 9223372036854775807 ∧ ((104 : Nat) : Int) * (p.l.length : Int) ≤ 140737488355328) (mP (([] : List Unit) = []) (useC (((.cons 11 (.sy (.int 0 0)) (.cons 10 (.sy (.int 0 (p.l.length : Int))) (.cons 9 (.sy (.imm p.h 18 Int p.l encK)) (.cons 3 (.sy (.prow 0 0)) .nil)))), (.node .leaf (some (.prow 45 18 Int ([] : List Int) encK)) .leaf), 1)) I_l_clones_imm pre_l_clones_imm po_l_clones_imm fun p1 r1 => mP (r1.o.length = r1.o.length ∧ (0 : Int) = 0 ∧ (r1.o.length : Int) = (r1.o.length : Int) ∧ (r1.o.length : Int) = (r1.o.length : Int)) (K (.sy (.pfix 0 r1.o.length r1.o.length)) (.node .leaf (some (.prow 45 18 Int r1.o encK)) .leaf) 1))))) (by kernel_rfl) ?_
 dsimp only [pre_clones_imm] at hpre
 have h1 := hpre
 refine mI (⟨rfl, by omega⟩) (mI (rfl) ?_)
 refine callPR (⟨p.h, p.l, ([] : List Int), (0 : Int)⟩ : A_l_clones_imm) rfl (by (try dsimp only [pre_l_clones_imm]); refine ⟨h1, by omega, by omega, rfl⟩) fun r1 hi1 => ?_
 dsimp only [po_l_clones_imm] at hi1
 refine mI (by first | omega | (simp; done) | (simp; omega)) ?_
 exact fin_clones_imm hK ⟨r1.o⟩ (by dsimp only [po_clones_imm] <;> assumption)
noncomputable def nat_clones_imm := natC nat_clones_psub 0 (esOf I_clones_imm (spP pre_clones_imm out_clones_imm)) 33 [(0, 23)]
theorem nat_clones_imm_ok : NatsOk Try.prog nat_clones_imm := natC_ok (natE_said (f := 33) (k := 0) (lp := lp_clones_imm) (lf := 600) tb_mix (cfT_ok nat_clones_psub_ok) ft_clones_imm_ok (by rfl) (fun b j x h => (mem_step lo_l_clones_imm (fun h => (by cases h)) h)) fun p K h => vf_clones_imm p K (mustP_ok h).1 (mustP_ok h).2) nat_clones_psub_ok
def ft_add1 : XF := .mk 44 (.one 4) (.aft (.seq (g_ 2 [e_ 0 3 (.box 45 (.t 1)), p_ 1 4 (.mv (i_ 0))]) (.seq (.block 2 (.seq (h_ 14 [p_ 0 6 (m_ 0), c_ 1 7 34 [.t 6], p_ 2 8 (.un 0 (.t 7)), p_ 3 9 (m_ 8), rg_ 4 10 9 false (.ld true 18 (.t 3)), pg_ 5 11 9 false (m_ 0), pg_ 6 12 9 false (n_ 11), pg_ 7 13 9 false (f_ 0 12), pg_ 8 14 9 false (f_ 0 13), rg_ 9 15 9 false (l_ 14), cg_ 10 16 9 false 35 [.t 10, .t 15], pg_ 11 17 9 false (.un 0 (.t 16)), p_ 12 18 (.pick (.t 9) (.c (.bool true)) (.t 17)), p_ 13 5 (m_ 18)]) (.cond (.t 5) (.seq (g_ 1 [p_ 0 4 (.mv (i_ 1))]) .ret) (.seq (g_ 5 [p_ 0 20 (m_ 0), p_ 1 21 (n_ 20), p_ 2 22 (f_ 8 21), r_ 3 23 (l_ 22), p_ 4 19 (m_ 23)]) (.cond (.t 19) (.seq (g_ 1 [p_ 0 4 (.mv (i_ 17))]) .ret) (.seq (g_ 7 [p_ 0 25 (m_ 0), p_ 1 26 (n_ 25), p_ 2 27 (f_ 5 26), r_ 3 28 (l_ 27), p_ 4 29 (k_ 28), p_ 5 30 (.bin 3 3 (.t 29) (i_ 400)), p_ 6 24 (m_ 30)]) (.cond (.t 24) (.seq (g_ 1 [p_ 0 4 (.mv (i_ 11))]) .ret) .skip))))))) (.seq (h_ 12 [p_ 0 31 (m_ 0), p_ 1 32 (m_ 0), p_ 2 33 (n_ 32), p_ 3 34 (f_ 5 33), r_ 4 35 (l_ 34), r_ 5 36 (.ld true 18 (.t 3)), c_ 6 37 36 [.t 36], a_ 4 35 (l_ 34), e_ 7 38 (.bsl 45 18 1 [.int 1 (.ofNat 0), .int 1 (.ofNat 0), .int 2 (.ofNat 0), .int 3 (.ofNat 0), .int 1 (.ofNat 0), .int 1 (.ofNat 0), .int 1 (.ofNat 0), .int 1 (.ofNat 0), .int 1 (.ofNat 0), .int 1 (.ofNat 0), .int 1 (.ofNat 0), .int 3 (.ofNat 0), .nilS, .int 1 (.ofNat 0), .str [], .nilS, .int 1 (.ofNat 0), .int 2 (.ofNat 0)] [(0, 18)] [.t 37]), a_ 4 35 (l_ 34), e_ 8 39 (.app 45 18 104 (.t 35) (.t 38)), p_ 9 40 (n_ 31), p_ 10 41 (f_ 5 40), e0_ 11 (.st 1 (.t 41) (.t 39))]) (.seq (g_ 2 [p_ 0 42 (m_ 0), c_ 1 43 37 [.t 42]]) (.seq (g_ 1 [p_ 0 4 (.mv (i_ 0))]) .ret))))) [(0, [.up 4]), (1, [.up 4])])
theorem ft_add1_ok : chkF Try.prog 10 ft_add1 = true := by kernel_rfl
structure A_add1 where
 l : List Int
 com : Int
 sh : Prop
 c0 : Int
 x : Int
structure R_add1 where
 z : Int
 l : List Int
 com : Int
 c0 : Int
def po_add1 (p : A_add1) (r : R_add1) : Prop := (r.l = p.l ∧ r.com = p.com ∧ r.c0 = p.c0) ∨ (¬ p.sh ∧ p.l.length < 400 ∧ r.l = p.l ++ [p.x] ∧ r.c0 = (r.l.length : Int) ∧ comR 1 p.com r.com [r.c0])
noncomputable def I_add1 (p : A_add1) : IE := ([.ptr 0 0, .agg [.int 1 (.ofNat 2), .int 1 (.ofNat 0), .int 2 (.ofNat 0), .int 3 (.ofNat 0), .int 1 (.ofNat 0), .int 1 (.ofNat 0), .int 1 (.ofNat 0), .int 1 (.ofNat 0), .int 1 (.ofNat 0), .int 1 (.ofNat 0), .int 1 (.ofNat 0), .int 3 (.ofNat 0), .nilS, .int 1 (.ofNat 0), .str [], .nilS, .sy (.int 1 p.x), .int 2 (.ofNat 1)]], (Ro1n p.l p.com p.sh p.c0), 4)
noncomputable def out_add1 (p : A_add1) (K : KE) : Bool := allB fun r : R_add1 => iP (po_add1 p r) (K (.sy (.int 0 r.z)) (Ro1n r.l r.com p.sh r.c0) 4) true
def pre_add1 (p : A_add1) : Prop := 0 ≤ p.x ∧ p.x ≤ 15
theorem fin_add1 {p : A_add1} {K : KE} (hK : out_add1 p K = true) (r : R_add1) (h : po_add1 p r) : K (.sy (.int 0 r.z)) (Ro1n r.l r.com p.sh r.c0) 4 = true := ifB_use h (allB_ok hK r)
theorem vf_add1 (p : A_add1) (K : KE) (hpre : pre_add1 p) (hK : out_add1 p K = true) : (funE 1 (cfT nat_clones_imm) noLp 600 ft_add1 (I_add1 p).1 (I_add1 p).2.1 (I_add1 p).2.2 K) = true := by
 refine Eq.trans (b := (iP (p.x < (16 : Int)) (iP (p.sh) (K (.sy (.int 0 17)) (Ro1n p.l p.com p.sh p.c0) 4) (iP ((400 : Int) ≤ (p.l.length : Int)) (K (.sy (.int 0 11)) (Ro1n p.l p.com p.sh p.c0) 4) (mP (((.prow 2 p.l.length) : SY) = (.prow 2 p.l.length)) (mP (((.prow 2 p.l.length) : SY) = (.prow 2 p.l.length)) (mP (p.l.length = p.l.length) (exB fun m1 : List Int => mP (rowsR (m1.map encK) [[.int 1 (.ofNat 2), .int 1 (.ofNat 0), .int 2 (.ofNat 0), .int 3 (.ofNat 0), .int 1 (.ofNat 0), .int 1 (.ofNat 0), .int 1 (.ofNat 0), .int 1 (.ofNat 0), .int 1 (.ofNat 0), .int 1 (.ofNat 0), .int 1 (.ofNat 0), .int 3 (.ofNat 0), .nilS, .int 1 (.ofNat 0), .str [], .nilS, .sint 1 p.x, .int 2 (.ofNat 1)]]) (mP (limP 104 (p.l.length + m1.length)) (exB fun p1 : A_settle1 => mP (([.ptr 0 0], (Ro1 (p.l ++ m1) p.com p.sh p.c0 ((p.l ++ m1).length)), 4) = I_settle1 p1) (allB fun r1 : R_settle1 => iP (po_settle1 p1 r1) (K (.sy (.int 0 0)) (Ro1n p1.l r1.com p1.sh (p1.l.length : Int)) 4) true))))))))) (K (.sy (.int 0 1)) (Ro1n p.l p.com p.sh p.c0) 4))) (by kernel_rfl) ?_
 dsimp only [pre_add1] at hpre
 refine iI (fun hc1 => ?_) (fun hc1 => ?_)
 refine iI (fun hc2 => ?_) (fun hc2 => ?_)
 exact fin_add1 hK ⟨(17 : Int), p.l, p.com, p.c0⟩ (by dsimp only [po_add1] <;> (first | exact .inl ⟨rfl, rfl, rfl⟩ | exact .inr ⟨by assumption, by omega, rfl, rfl, by assumption⟩ | (exfalso; omega)))
 refine iI (fun hc3 => ?_) (fun hc3 => ?_)
 exact fin_add1 hK ⟨(11 : Int), p.l, p.com, p.c0⟩ (by dsimp only [po_add1] <;> (first | exact .inl ⟨rfl, rfl, rfl⟩ | exact .inr ⟨by assumption, by omega, rfl, rfl, by assumption⟩ | (exfalso; omega)))
 refine mI (rfl) (mI (rfl) (mI (rfl) ?_))
 refine exB_mk [p.x] ?_
 refine mI (show rowsR ([p.x].map encK) [[.int 1 (.ofNat 2), .int 1 (.ofNat 0), .int 2 (.ofNat 0), .int 3 (.ofNat 0), .int 1 (.ofNat 0), .int 1 (.ofNat 0), .int 1 (.ofNat 0), .int 1 (.ofNat 0), .int 1 (.ofNat 0), .int 1 (.ofNat 0), .int 1 (.ofNat 0), .int 3 (.ofNat 0), .nilS, .int 1 (.ofNat 0), .str [], .nilS, .sint 1 p.x, .int 2 (.ofNat 1)]] from ⟨⟨.inl rfl, ⟨.inl rfl, ⟨.inl rfl, ⟨.inl rfl, ⟨.inl rfl, ⟨.inl rfl, ⟨.inl rfl, ⟨.inl rfl, ⟨.inl rfl, ⟨.inl rfl, ⟨.inl rfl, ⟨.inl rfl, ⟨.inl rfl, ⟨.inl rfl, ⟨.inl rfl, ⟨.inl rfl, ⟨.inl rfl, ⟨.inl rfl, trivial⟩⟩⟩⟩⟩⟩⟩⟩⟩⟩⟩⟩⟩⟩⟩⟩⟩⟩, trivial⟩) ?_
 refine mI (by (try dsimp only); (first | omega | (simp [limP] <;> omega))) ?_
 refine callR (⟨p.l ++ [p.x], p.com, p.sh, p.c0⟩ : A_settle1) rfl fun r1 hi4 => ?_
 dsimp only [po_settle1] at hi4
 exact fin_add1 hK ⟨(0 : Int), (p.l ++ [p.x]), r1.com, ((p.l ++ [p.x]).length : Int)⟩ (by dsimp only [po_add1] <;> (first | exact .inl ⟨rfl, rfl, rfl⟩ | exact .inr ⟨by assumption, by omega, rfl, rfl, by assumption⟩ | (exfalso; omega)))
 exact fin_add1 hK ⟨(1 : Int), p.l, p.com, p.c0⟩ (by dsimp only [po_add1] <;> (first | exact .inl ⟨rfl, rfl, rfl⟩ | exact .inr ⟨by assumption, by omega, rfl, rfl, by assumption⟩ | (exfalso; omega)))
noncomputable def ec_add1 : SpecE := tstE (elB 1 1) (esOf I_add1 (spP pre_add1 out_add1)) (fun _ _ _ _ => false)
theorem nc_add1 : NatE Try.prog 10 1 ec_add1 := tstE_ok (natE_pl (f := 10) (k := 1) (cfT_ok nat_clones_imm_ok) ft_add1_ok (by rfl) (by rfl) vf_add1) natE_no
noncomputable def nat_add1 := natC nat_clones_imm 1 ec_add1 10 [(0, 4), (1, 15)]
theorem nat_add1_ok : NatsOk Try.prog nat_add1 := natC_ok nc_add1 nat_clones_imm_ok
def ft_add2 : XF := ft_add1
theorem ft_add2_ok : chkF Try.prog 10 ft_add2 = true := ft_add1_ok
structure A_add2 where
 l : List Int
 com : Int
 sh : Prop
 c0 : Int
 c1 : Int
 x : Int
structure R_add2 where
 z : Int
 l : List Int
 com : Int
 c0 : Int
def po_add2 (p : A_add2) (r : R_add2) : Prop := (r.l = p.l ∧ r.com = p.com ∧ r.c0 = p.c0) ∨ (¬ p.sh ∧ p.l.length < 400 ∧ r.l = p.l ++ [p.x] ∧ r.c0 = (r.l.length : Int) ∧ comR 2 p.com r.com [r.c0, p.c1])
noncomputable def I_add2 (p : A_add2) : IE := ([.ptr 0 0, .agg [.int 1 (.ofNat 2), .int 1 (.ofNat 0), .int 2 (.ofNat 0), .int 3 (.ofNat 0), .int 1 (.ofNat 0), .int 1 (.ofNat 0), .int 1 (.ofNat 0), .int 1 (.ofNat 0), .int 1 (.ofNat 0), .int 1 (.ofNat 0), .int 1 (.ofNat 0), .int 3 (.ofNat 0), .nilS, .int 1 (.ofNat 0), .str [], .nilS, .sy (.int 1 p.x), .int 2 (.ofNat 1)]], (Ro2n p.l p.com p.sh p.c0 p.c1), 4)
noncomputable def out_add2 (p : A_add2) (K : KE) : Bool := allB fun r : R_add2 => iP (po_add2 p r) (K (.sy (.int 0 r.z)) (Ro2n r.l r.com p.sh r.c0 p.c1) 4) true
def pre_add2 (p : A_add2) : Prop := 0 ≤ p.x ∧ p.x ≤ 15
theorem fin_add2 {p : A_add2} {K : KE} (hK : out_add2 p K = true) (r : R_add2) (h : po_add2 p r) : K (.sy (.int 0 r.z)) (Ro2n r.l r.com p.sh r.c0 p.c1) 4 = true := ifB_use h (allB_ok hK r)
theorem vf_add2 (p : A_add2) (K : KE) (hpre : pre_add2 p) (hK : out_add2 p K = true) : (funE 1 (cfT nat_add1) noLp 600 ft_add2 (I_add2 p).1 (I_add2 p).2.1 (I_add2 p).2.2 K) = true := by
 refine Eq.trans (b := (iP (p.x < (16 : Int)) (iP (p.sh) (K (.sy (.int 0 17)) (Ro2n p.l p.com p.sh p.c0 p.c1) 4) (iP ((400 : Int) ≤ (p.l.length : Int)) (K (.sy (.int 0 11)) (Ro2n p.l p.com p.sh p.c0 p.c1) 4) (mP (((.prow 2 p.l.length) : SY) = (.prow 2 p.l.length)) (mP (((.prow 2 p.l.length) : SY) = (.prow 2 p.l.length)) (mP (p.l.length = p.l.length) (exB fun m1 : List Int => mP (rowsR (m1.map encK) [[.int 1 (.ofNat 2), .int 1 (.ofNat 0), .int 2 (.ofNat 0), .int 3 (.ofNat 0), .int 1 (.ofNat 0), .int 1 (.ofNat 0), .int 1 (.ofNat 0), .int 1 (.ofNat 0), .int 1 (.ofNat 0), .int 1 (.ofNat 0), .int 1 (.ofNat 0), .int 3 (.ofNat 0), .nilS, .int 1 (.ofNat 0), .str [], .nilS, .sint 1 p.x, .int 2 (.ofNat 1)]]) (mP (limP 104 (p.l.length + m1.length)) (exB fun p1 : A_settle2 => mP (([.ptr 0 0], (Ro2 (p.l ++ m1) p.com p.sh p.c0 p.c1 ((p.l ++ m1).length)), 4) = I_settle2 p1) (allB fun r1 : R_settle2 => iP (po_settle2 p1 r1) (K (.sy (.int 0 0)) (Ro2n p1.l r1.com p1.sh (p1.l.length : Int) p1.c1) 4) true))))))))) (K (.sy (.int 0 1)) (Ro2n p.l p.com p.sh p.c0 p.c1) 4))) (by kernel_rfl) ?_
 dsimp only [pre_add2] at hpre
 refine iI (fun hc1 => ?_) (fun hc1 => ?_)
 refine iI (fun hc2 => ?_) (fun hc2 => ?_)
 exact fin_add2 hK ⟨(17 : Int), p.l, p.com, p.c0⟩ (by dsimp only [po_add2] <;> (first | exact .inl ⟨rfl, rfl, rfl⟩ | exact .inr ⟨by assumption, by omega, rfl, rfl, by assumption⟩ | (exfalso; omega)))
 refine iI (fun hc3 => ?_) (fun hc3 => ?_)
 exact fin_add2 hK ⟨(11 : Int), p.l, p.com, p.c0⟩ (by dsimp only [po_add2] <;> (first | exact .inl ⟨rfl, rfl, rfl⟩ | exact .inr ⟨by assumption, by omega, rfl, rfl, by assumption⟩ | (exfalso; omega)))
 refine mI (rfl) (mI (rfl) (mI (rfl) ?_))
 refine exB_mk [p.x] ?_
 refine mI (show rowsR ([p.x].map encK) [[.int 1 (.ofNat 2), .int 1 (.ofNat 0), .int 2 (.ofNat 0), .int 3 (.ofNat 0), .int 1 (.ofNat 0), .int 1 (.ofNat 0), .int 1 (.ofNat 0), .int 1 (.ofNat 0), .int 1 (.ofNat 0), .int 1 (.ofNat 0), .int 1 (.ofNat 0), .int 3 (.ofNat 0), .nilS, .int 1 (.ofNat 0), .str [], .nilS, .sint 1 p.x, .int 2 (.ofNat 1)]] from ⟨⟨.inl rfl, ⟨.inl rfl, ⟨.inl rfl, ⟨.inl rfl, ⟨.inl rfl, ⟨.inl rfl, ⟨.inl rfl, ⟨.inl rfl, ⟨.inl rfl, ⟨.inl rfl, ⟨.inl rfl, ⟨.inl rfl, ⟨.inl rfl, ⟨.inl rfl, ⟨.inl rfl, ⟨.inl rfl, ⟨.inl rfl, ⟨.inl rfl, trivial⟩⟩⟩⟩⟩⟩⟩⟩⟩⟩⟩⟩⟩⟩⟩⟩⟩⟩, trivial⟩) ?_
 refine mI (by (try dsimp only); (first | omega | (simp [limP] <;> omega))) ?_
 refine callR (⟨p.l ++ [p.x], p.com, p.sh, p.c0, p.c1⟩ : A_settle2) rfl fun r1 hi4 => ?_
 dsimp only [po_settle2] at hi4
 exact fin_add2 hK ⟨(0 : Int), (p.l ++ [p.x]), r1.com, ((p.l ++ [p.x]).length : Int)⟩ (by dsimp only [po_add2] <;> (first | exact .inl ⟨rfl, rfl, rfl⟩ | exact .inr ⟨by assumption, by omega, rfl, rfl, by assumption⟩ | (exfalso; omega)))
 exact fin_add2 hK ⟨(1 : Int), p.l, p.com, p.c0⟩ (by dsimp only [po_add2] <;> (first | exact .inl ⟨rfl, rfl, rfl⟩ | exact .inr ⟨by assumption, by omega, rfl, rfl, by assumption⟩ | (exfalso; omega)))
noncomputable def ec_add2 : SpecE := tstE (elB 1 2) (esOf I_add2 (spP pre_add2 out_add2)) ec_add1
theorem nc_add2 : NatE Try.prog 10 1 ec_add2 := tstE_ok (natE_pl (f := 10) (k := 1) (cfT_ok nat_add1_ok) ft_add2_ok (by rfl) (by rfl) vf_add2) nc_add1
noncomputable def nat_add2 := natC nat_add1 1 ec_add2 10 [(0, 4), (1, 15)]
theorem nat_add2_ok : NatsOk Try.prog nat_add2 := natC_ok nc_add2 nat_add1_ok
def ft_add3 : XF := ft_add1
theorem ft_add3_ok : chkF Try.prog 10 ft_add3 = true := ft_add1_ok
structure A_add3 where
 l : List Int
 com : Int
 sh : Prop
 c0 : Int
 c1 : Int
 c2 : Int
 x : Int
structure R_add3 where
 z : Int
 l : List Int
 com : Int
 c0 : Int
def po_add3 (p : A_add3) (r : R_add3) : Prop := (r.l = p.l ∧ r.com = p.com ∧ r.c0 = p.c0) ∨ (¬ p.sh ∧ p.l.length < 400 ∧ r.l = p.l ++ [p.x] ∧ r.c0 = (r.l.length : Int) ∧ comR 2 p.com r.com [r.c0, p.c1, p.c2])
noncomputable def I_add3 (p : A_add3) : IE := ([.ptr 0 0, .agg [.int 1 (.ofNat 2), .int 1 (.ofNat 0), .int 2 (.ofNat 0), .int 3 (.ofNat 0), .int 1 (.ofNat 0), .int 1 (.ofNat 0), .int 1 (.ofNat 0), .int 1 (.ofNat 0), .int 1 (.ofNat 0), .int 1 (.ofNat 0), .int 1 (.ofNat 0), .int 3 (.ofNat 0), .nilS, .int 1 (.ofNat 0), .str [], .nilS, .sy (.int 1 p.x), .int 2 (.ofNat 1)]], (Ro3n p.l p.com p.sh p.c0 p.c1 p.c2), 4)
noncomputable def out_add3 (p : A_add3) (K : KE) : Bool := allB fun r : R_add3 => iP (po_add3 p r) (K (.sy (.int 0 r.z)) (Ro3n r.l r.com p.sh r.c0 p.c1 p.c2) 4) true
def pre_add3 (p : A_add3) : Prop := 0 ≤ p.x ∧ p.x ≤ 15
theorem fin_add3 {p : A_add3} {K : KE} (hK : out_add3 p K = true) (r : R_add3) (h : po_add3 p r) : K (.sy (.int 0 r.z)) (Ro3n r.l r.com p.sh r.c0 p.c1 p.c2) 4 = true := ifB_use h (allB_ok hK r)
theorem vf_add3 (p : A_add3) (K : KE) (hpre : pre_add3 p) (hK : out_add3 p K = true) : (funE 1 (cfT nat_add2) noLp 600 ft_add3 (I_add3 p).1 (I_add3 p).2.1 (I_add3 p).2.2 K) = true := by
 refine Eq.trans (b := (iP (p.x < (16 : Int)) (iP (p.sh) (K (.sy (.int 0 17)) (Ro3n p.l p.com p.sh p.c0 p.c1 p.c2) 4) (iP ((400 : Int) ≤ (p.l.length : Int)) (K (.sy (.int 0 11)) (Ro3n p.l p.com p.sh p.c0 p.c1 p.c2) 4) (mP (((.prow 2 p.l.length) : SY) = (.prow 2 p.l.length)) (mP (((.prow 2 p.l.length) : SY) = (.prow 2 p.l.length)) (mP (p.l.length = p.l.length) (exB fun m1 : List Int => mP (rowsR (m1.map encK) [[.int 1 (.ofNat 2), .int 1 (.ofNat 0), .int 2 (.ofNat 0), .int 3 (.ofNat 0), .int 1 (.ofNat 0), .int 1 (.ofNat 0), .int 1 (.ofNat 0), .int 1 (.ofNat 0), .int 1 (.ofNat 0), .int 1 (.ofNat 0), .int 1 (.ofNat 0), .int 3 (.ofNat 0), .nilS, .int 1 (.ofNat 0), .str [], .nilS, .sint 1 p.x, .int 2 (.ofNat 1)]]) (mP (limP 104 (p.l.length + m1.length)) (exB fun p1 : A_settle3 => mP (([.ptr 0 0], (Ro3 (p.l ++ m1) p.com p.sh p.c0 p.c1 p.c2 ((p.l ++ m1).length)), 4) = I_settle3 p1) (allB fun r1 : R_settle3 => iP (po_settle3 p1 r1) (K (.sy (.int 0 0)) (Ro3n p1.l r1.com p1.sh (p1.l.length : Int) p1.c1 p1.c2) 4) true))))))))) (K (.sy (.int 0 1)) (Ro3n p.l p.com p.sh p.c0 p.c1 p.c2) 4))) (by kernel_rfl) ?_
 dsimp only [pre_add3] at hpre
 refine iI (fun hc1 => ?_) (fun hc1 => ?_)
 refine iI (fun hc2 => ?_) (fun hc2 => ?_)
 exact fin_add3 hK ⟨(17 : Int), p.l, p.com, p.c0⟩ (by dsimp only [po_add3] <;> (first | exact .inl ⟨rfl, rfl, rfl⟩ | exact .inr ⟨by assumption, by omega, rfl, rfl, by assumption⟩ | (exfalso; omega)))
 refine iI (fun hc3 => ?_) (fun hc3 => ?_)
 exact fin_add3 hK ⟨(11 : Int), p.l, p.com, p.c0⟩ (by dsimp only [po_add3] <;> (first | exact .inl ⟨rfl, rfl, rfl⟩ | exact .inr ⟨by assumption, by omega, rfl, rfl, by assumption⟩ | (exfalso; omega)))
 refine mI (rfl) (mI (rfl) (mI (rfl) ?_))
 refine exB_mk [p.x] ?_
 refine mI (show rowsR ([p.x].map encK) [[.int 1 (.ofNat 2), .int 1 (.ofNat 0), .int 2 (.ofNat 0), .int 3 (.ofNat 0), .int 1 (.ofNat 0), .int 1 (.ofNat 0), .int 1 (.ofNat 0), .int 1 (.ofNat 0), .int 1 (.ofNat 0), .int 1 (.ofNat 0), .int 1 (.ofNat 0), .int 3 (.ofNat 0), .nilS, .int 1 (.ofNat 0), .str [], .nilS, .sint 1 p.x, .int 2 (.ofNat 1)]] from ⟨⟨.inl rfl, ⟨.inl rfl, ⟨.inl rfl, ⟨.inl rfl, ⟨.inl rfl, ⟨.inl rfl, ⟨.inl rfl, ⟨.inl rfl, ⟨.inl rfl, ⟨.inl rfl, ⟨.inl rfl, ⟨.inl rfl, ⟨.inl rfl, ⟨.inl rfl, ⟨.inl rfl, ⟨.inl rfl, ⟨.inl rfl, ⟨.inl rfl, trivial⟩⟩⟩⟩⟩⟩⟩⟩⟩⟩⟩⟩⟩⟩⟩⟩⟩⟩, trivial⟩) ?_
 refine mI (by (try dsimp only); (first | omega | (simp [limP] <;> omega))) ?_
 refine callR (⟨p.l ++ [p.x], p.com, p.sh, p.c0, p.c1, p.c2⟩ : A_settle3) rfl fun r1 hi4 => ?_
 dsimp only [po_settle3] at hi4
 exact fin_add3 hK ⟨(0 : Int), (p.l ++ [p.x]), r1.com, ((p.l ++ [p.x]).length : Int)⟩ (by dsimp only [po_add3] <;> (first | exact .inl ⟨rfl, rfl, rfl⟩ | exact .inr ⟨by assumption, by omega, rfl, rfl, by assumption⟩ | (exfalso; omega)))
 exact fin_add3 hK ⟨(1 : Int), p.l, p.com, p.c0⟩ (by dsimp only [po_add3] <;> (first | exact .inl ⟨rfl, rfl, rfl⟩ | exact .inr ⟨by assumption, by omega, rfl, rfl, by assumption⟩ | (exfalso; omega)))
noncomputable def ec_add3 : SpecE := tstE (elB 1 3) (esOf I_add3 (spP pre_add3 out_add3)) ec_add2
theorem nc_add3 : NatE Try.prog 10 1 ec_add3 := tstE_ok (natE_pl (f := 10) (k := 1) (cfT_ok nat_add2_ok) ft_add3_ok (by rfl) (by rfl) vf_add3) nc_add2
noncomputable def nat_add3 := natC nat_add2 1 ec_add3 10 [(0, 4), (1, 15)]
theorem nat_add3_ok : NatsOk Try.prog nat_add3 := natC_ok nc_add3 nat_add2_ok
def ft_add4 : XF := ft_add1
theorem ft_add4_ok : chkF Try.prog 10 ft_add4 = true := ft_add1_ok
structure A_add4 where
 l : List Int
 com : Int
 sh : Prop
 c0 : Int
 c1 : Int
 c2 : Int
 c3 : Int
 x : Int
structure R_add4 where
 z : Int
 l : List Int
 com : Int
 c0 : Int
def po_add4 (p : A_add4) (r : R_add4) : Prop := (r.l = p.l ∧ r.com = p.com ∧ r.c0 = p.c0) ∨ (¬ p.sh ∧ p.l.length < 400 ∧ r.l = p.l ++ [p.x] ∧ r.c0 = (r.l.length : Int) ∧ comR 3 p.com r.com [r.c0, p.c1, p.c2, p.c3])
noncomputable def I_add4 (p : A_add4) : IE := ([.ptr 0 0, .agg [.int 1 (.ofNat 2), .int 1 (.ofNat 0), .int 2 (.ofNat 0), .int 3 (.ofNat 0), .int 1 (.ofNat 0), .int 1 (.ofNat 0), .int 1 (.ofNat 0), .int 1 (.ofNat 0), .int 1 (.ofNat 0), .int 1 (.ofNat 0), .int 1 (.ofNat 0), .int 3 (.ofNat 0), .nilS, .int 1 (.ofNat 0), .str [], .nilS, .sy (.int 1 p.x), .int 2 (.ofNat 1)]], (Ro4n p.l p.com p.sh p.c0 p.c1 p.c2 p.c3), 4)
noncomputable def out_add4 (p : A_add4) (K : KE) : Bool := allB fun r : R_add4 => iP (po_add4 p r) (K (.sy (.int 0 r.z)) (Ro4n r.l r.com p.sh r.c0 p.c1 p.c2 p.c3) 4) true
def pre_add4 (p : A_add4) : Prop := 0 ≤ p.x ∧ p.x ≤ 15
theorem fin_add4 {p : A_add4} {K : KE} (hK : out_add4 p K = true) (r : R_add4) (h : po_add4 p r) : K (.sy (.int 0 r.z)) (Ro4n r.l r.com p.sh r.c0 p.c1 p.c2 p.c3) 4 = true := ifB_use h (allB_ok hK r)
theorem vf_add4 (p : A_add4) (K : KE) (hpre : pre_add4 p) (hK : out_add4 p K = true) : (funE 1 (cfT nat_add3) noLp 600 ft_add4 (I_add4 p).1 (I_add4 p).2.1 (I_add4 p).2.2 K) = true := by
 refine Eq.trans (b := (iP (p.x < (16 : Int)) (iP (p.sh) (K (.sy (.int 0 17)) (Ro4n p.l p.com p.sh p.c0 p.c1 p.c2 p.c3) 4) (iP ((400 : Int) ≤ (p.l.length : Int)) (K (.sy (.int 0 11)) (Ro4n p.l p.com p.sh p.c0 p.c1 p.c2 p.c3) 4) (mP (((.prow 2 p.l.length) : SY) = (.prow 2 p.l.length)) (mP (((.prow 2 p.l.length) : SY) = (.prow 2 p.l.length)) (mP (p.l.length = p.l.length) (exB fun m1 : List Int => mP (rowsR (m1.map encK) [[.int 1 (.ofNat 2), .int 1 (.ofNat 0), .int 2 (.ofNat 0), .int 3 (.ofNat 0), .int 1 (.ofNat 0), .int 1 (.ofNat 0), .int 1 (.ofNat 0), .int 1 (.ofNat 0), .int 1 (.ofNat 0), .int 1 (.ofNat 0), .int 1 (.ofNat 0), .int 3 (.ofNat 0), .nilS, .int 1 (.ofNat 0), .str [], .nilS, .sint 1 p.x, .int 2 (.ofNat 1)]]) (mP (limP 104 (p.l.length + m1.length)) (exB fun p1 : A_settle4 => mP (([.ptr 0 0], (Ro4 (p.l ++ m1) p.com p.sh p.c0 p.c1 p.c2 p.c3 ((p.l ++ m1).length)), 4) = I_settle4 p1) (allB fun r1 : R_settle4 => iP (po_settle4 p1 r1) (K (.sy (.int 0 0)) (Ro4n p1.l r1.com p1.sh (p1.l.length : Int) p1.c1 p1.c2 p1.c3) 4) true))))))))) (K (.sy (.int 0 1)) (Ro4n p.l p.com p.sh p.c0 p.c1 p.c2 p.c3) 4))) (by kernel_rfl) ?_
 dsimp only [pre_add4] at hpre
 refine iI (fun hc1 => ?_) (fun hc1 => ?_)
 refine iI (fun hc2 => ?_) (fun hc2 => ?_)
 exact fin_add4 hK ⟨(17 : Int), p.l, p.com, p.c0⟩ (by dsimp only [po_add4] <;> (first | exact .inl ⟨rfl, rfl, rfl⟩ | exact .inr ⟨by assumption, by omega, rfl, rfl, by assumption⟩ | (exfalso; omega)))
 refine iI (fun hc3 => ?_) (fun hc3 => ?_)
 exact fin_add4 hK ⟨(11 : Int), p.l, p.com, p.c0⟩ (by dsimp only [po_add4] <;> (first | exact .inl ⟨rfl, rfl, rfl⟩ | exact .inr ⟨by assumption, by omega, rfl, rfl, by assumption⟩ | (exfalso; omega)))
 refine mI (rfl) (mI (rfl) (mI (rfl) ?_))
 refine exB_mk [p.x] ?_
 refine mI (show rowsR ([p.x].map encK) [[.int 1 (.ofNat 2), .int 1 (.ofNat 0), .int 2 (.ofNat 0), .int 3 (.ofNat 0), .int 1 (.ofNat 0), .int 1 (.ofNat 0), .int 1 (.ofNat 0), .int 1 (.ofNat 0), .int 1 (.ofNat 0), .int 1 (.ofNat 0), .int 1 (.ofNat 0), .int 3 (.ofNat 0), .nilS, .int 1 (.ofNat 0), .str [], .nilS, .sint 1 p.x, .int 2 (.ofNat 1)]] from ⟨⟨.inl rfl, ⟨.inl rfl, ⟨.inl rfl, ⟨.inl rfl, ⟨.inl rfl, ⟨.inl rfl, ⟨.inl rfl, ⟨.inl rfl, ⟨.inl rfl, ⟨.inl rfl, ⟨.inl rfl, ⟨.inl rfl, ⟨.inl rfl, ⟨.inl rfl, ⟨.inl rfl, ⟨.inl rfl, ⟨.inl rfl, ⟨.inl rfl, trivial⟩⟩⟩⟩⟩⟩⟩⟩⟩⟩⟩⟩⟩⟩⟩⟩⟩⟩, trivial⟩) ?_
 refine mI (by (try dsimp only); (first | omega | (simp [limP] <;> omega))) ?_
 refine callR (⟨p.l ++ [p.x], p.com, p.sh, p.c0, p.c1, p.c2, p.c3⟩ : A_settle4) rfl fun r1 hi4 => ?_
 dsimp only [po_settle4] at hi4
 exact fin_add4 hK ⟨(0 : Int), (p.l ++ [p.x]), r1.com, ((p.l ++ [p.x]).length : Int)⟩ (by dsimp only [po_add4] <;> (first | exact .inl ⟨rfl, rfl, rfl⟩ | exact .inr ⟨by assumption, by omega, rfl, rfl, by assumption⟩ | (exfalso; omega)))
 exact fin_add4 hK ⟨(1 : Int), p.l, p.com, p.c0⟩ (by dsimp only [po_add4] <;> (first | exact .inl ⟨rfl, rfl, rfl⟩ | exact .inr ⟨by assumption, by omega, rfl, rfl, by assumption⟩ | (exfalso; omega)))
noncomputable def ec_add4 : SpecE := tstE (elB 1 4) (esOf I_add4 (spP pre_add4 out_add4)) ec_add3
theorem nc_add4 : NatE Try.prog 10 1 ec_add4 := tstE_ok (natE_pl (f := 10) (k := 1) (cfT_ok nat_add3_ok) ft_add4_ok (by rfl) (by rfl) vf_add4) nc_add3
noncomputable def nat_add4 := natC nat_add3 1 ec_add4 10 [(0, 4), (1, 15)]
theorem nat_add4_ok : NatsOk Try.prog nat_add4 := natC_ok nc_add4 nat_add3_ok
def ft_add5 : XF := ft_add1
theorem ft_add5_ok : chkF Try.prog 10 ft_add5 = true := ft_add1_ok
structure A_add5 where
 l : List Int
 com : Int
 sh : Prop
 c0 : Int
 c1 : Int
 c2 : Int
 c3 : Int
 c4 : Int
 x : Int
structure R_add5 where
 z : Int
 l : List Int
 com : Int
 c0 : Int
def po_add5 (p : A_add5) (r : R_add5) : Prop := (r.l = p.l ∧ r.com = p.com ∧ r.c0 = p.c0) ∨ (¬ p.sh ∧ p.l.length < 400 ∧ r.l = p.l ++ [p.x] ∧ r.c0 = (r.l.length : Int) ∧ comR 3 p.com r.com [r.c0, p.c1, p.c2, p.c3, p.c4])
noncomputable def I_add5 (p : A_add5) : IE := ([.ptr 0 0, .agg [.int 1 (.ofNat 2), .int 1 (.ofNat 0), .int 2 (.ofNat 0), .int 3 (.ofNat 0), .int 1 (.ofNat 0), .int 1 (.ofNat 0), .int 1 (.ofNat 0), .int 1 (.ofNat 0), .int 1 (.ofNat 0), .int 1 (.ofNat 0), .int 1 (.ofNat 0), .int 3 (.ofNat 0), .nilS, .int 1 (.ofNat 0), .str [], .nilS, .sy (.int 1 p.x), .int 2 (.ofNat 1)]], (Ro5n p.l p.com p.sh p.c0 p.c1 p.c2 p.c3 p.c4), 4)
noncomputable def out_add5 (p : A_add5) (K : KE) : Bool := allB fun r : R_add5 => iP (po_add5 p r) (K (.sy (.int 0 r.z)) (Ro5n r.l r.com p.sh r.c0 p.c1 p.c2 p.c3 p.c4) 4) true
def pre_add5 (p : A_add5) : Prop := 0 ≤ p.x ∧ p.x ≤ 15
theorem fin_add5 {p : A_add5} {K : KE} (hK : out_add5 p K = true) (r : R_add5) (h : po_add5 p r) : K (.sy (.int 0 r.z)) (Ro5n r.l r.com p.sh r.c0 p.c1 p.c2 p.c3 p.c4) 4 = true := ifB_use h (allB_ok hK r)
theorem vf_add5 (p : A_add5) (K : KE) (hpre : pre_add5 p) (hK : out_add5 p K = true) : (funE 1 (cfT nat_add4) noLp 600 ft_add5 (I_add5 p).1 (I_add5 p).2.1 (I_add5 p).2.2 K) = true := by
 refine Eq.trans (b := (iP (p.x < (16 : Int)) (iP (p.sh) (K (.sy (.int 0 17)) (Ro5n p.l p.com p.sh p.c0 p.c1 p.c2 p.c3 p.c4) 4) (iP ((400 : Int) ≤ (p.l.length : Int)) (K (.sy (.int 0 11)) (Ro5n p.l p.com p.sh p.c0 p.c1 p.c2 p.c3 p.c4) 4) (mP (((.prow 2 p.l.length) : SY) = (.prow 2 p.l.length)) (mP (((.prow 2 p.l.length) : SY) = (.prow 2 p.l.length)) (mP (p.l.length = p.l.length) (exB fun m1 : List Int => mP (rowsR (m1.map encK) [[.int 1 (.ofNat 2), .int 1 (.ofNat 0), .int 2 (.ofNat 0), .int 3 (.ofNat 0), .int 1 (.ofNat 0), .int 1 (.ofNat 0), .int 1 (.ofNat 0), .int 1 (.ofNat 0), .int 1 (.ofNat 0), .int 1 (.ofNat 0), .int 1 (.ofNat 0), .int 3 (.ofNat 0), .nilS, .int 1 (.ofNat 0), .str [], .nilS, .sint 1 p.x, .int 2 (.ofNat 1)]]) (mP (limP 104 (p.l.length + m1.length)) (exB fun p1 : A_settle5 => mP (([.ptr 0 0], (Ro5 (p.l ++ m1) p.com p.sh p.c0 p.c1 p.c2 p.c3 p.c4 ((p.l ++ m1).length)), 4) = I_settle5 p1) (allB fun r1 : R_settle5 => iP (po_settle5 p1 r1) (K (.sy (.int 0 0)) (Ro5n p1.l r1.com p1.sh (p1.l.length : Int) p1.c1 p1.c2 p1.c3 p1.c4) 4) true))))))))) (K (.sy (.int 0 1)) (Ro5n p.l p.com p.sh p.c0 p.c1 p.c2 p.c3 p.c4) 4))) (by kernel_rfl) ?_
 dsimp only [pre_add5] at hpre
 refine iI (fun hc1 => ?_) (fun hc1 => ?_)
 refine iI (fun hc2 => ?_) (fun hc2 => ?_)
 exact fin_add5 hK ⟨(17 : Int), p.l, p.com, p.c0⟩ (by dsimp only [po_add5] <;> (first | exact .inl ⟨rfl, rfl, rfl⟩ | exact .inr ⟨by assumption, by omega, rfl, rfl, by assumption⟩ | (exfalso; omega)))
 refine iI (fun hc3 => ?_) (fun hc3 => ?_)
 exact fin_add5 hK ⟨(11 : Int), p.l, p.com, p.c0⟩ (by dsimp only [po_add5] <;> (first | exact .inl ⟨rfl, rfl, rfl⟩ | exact .inr ⟨by assumption, by omega, rfl, rfl, by assumption⟩ | (exfalso; omega)))
 refine mI (rfl) (mI (rfl) (mI (rfl) ?_))
 refine exB_mk [p.x] ?_
 refine mI (show rowsR ([p.x].map encK) [[.int 1 (.ofNat 2), .int 1 (.ofNat 0), .int 2 (.ofNat 0), .int 3 (.ofNat 0), .int 1 (.ofNat 0), .int 1 (.ofNat 0), .int 1 (.ofNat 0), .int 1 (.ofNat 0), .int 1 (.ofNat 0), .int 1 (.ofNat 0), .int 1 (.ofNat 0), .int 3 (.ofNat 0), .nilS, .int 1 (.ofNat 0), .str [], .nilS, .sint 1 p.x, .int 2 (.ofNat 1)]] from ⟨⟨.inl rfl, ⟨.inl rfl, ⟨.inl rfl, ⟨.inl rfl, ⟨.inl rfl, ⟨.inl rfl, ⟨.inl rfl, ⟨.inl rfl, ⟨.inl rfl, ⟨.inl rfl, ⟨.inl rfl, ⟨.inl rfl, ⟨.inl rfl, ⟨.inl rfl, ⟨.inl rfl, ⟨.inl rfl, ⟨.inl rfl, ⟨.inl rfl, trivial⟩⟩⟩⟩⟩⟩⟩⟩⟩⟩⟩⟩⟩⟩⟩⟩⟩⟩, trivial⟩) ?_
 refine mI (by (try dsimp only); (first | omega | (simp [limP] <;> omega))) ?_
 refine callR (⟨p.l ++ [p.x], p.com, p.sh, p.c0, p.c1, p.c2, p.c3, p.c4⟩ : A_settle5) rfl fun r1 hi4 => ?_
 dsimp only [po_settle5] at hi4
 exact fin_add5 hK ⟨(0 : Int), (p.l ++ [p.x]), r1.com, ((p.l ++ [p.x]).length : Int)⟩ (by dsimp only [po_add5] <;> (first | exact .inl ⟨rfl, rfl, rfl⟩ | exact .inr ⟨by assumption, by omega, rfl, rfl, by assumption⟩ | (exfalso; omega)))
 exact fin_add5 hK ⟨(1 : Int), p.l, p.com, p.c0⟩ (by dsimp only [po_add5] <;> (first | exact .inl ⟨rfl, rfl, rfl⟩ | exact .inr ⟨by assumption, by omega, rfl, rfl, by assumption⟩ | (exfalso; omega)))
noncomputable def ec_add5 : SpecE := tstE (elB 1 5) (esOf I_add5 (spP pre_add5 out_add5)) ec_add4
theorem nc_add5 : NatE Try.prog 10 1 ec_add5 := tstE_ok (natE_pl (f := 10) (k := 1) (cfT_ok nat_add4_ok) ft_add5_ok (by rfl) (by rfl) vf_add5) nc_add4
noncomputable def nat_add5 := natC nat_add4 1 ec_add5 10 [(0, 4), (1, 15)]
theorem nat_add5_ok : NatsOk Try.prog nat_add5 := natC_ok nc_add5 nat_add4_ok
def ft_ack1 : XF := .mk 50 .none (.seq (g_ 1 [e_ 0 4 (.box 31 (.t 1))]) (.pre [.can 1 [0, 2, 4], .fixc 1 0 0 5] (.seq (.seq (h_ 29 [p_ 0 6 (m_ 0), c_ 1 7 34 [.t 6], p_ 2 8 (.un 0 (.t 7)), p_ 3 9 (m_ 8), rg_ 4 10 9 false (.ld true 2 (.t 4)), pg_ 5 11 9 false (m_ 0), pg_ 6 12 9 false (n_ 11), pg_ 7 13 9 false (f_ 3 12), rg_ 8 14 9 false (.ld true 2 (.t 13)), pg_ 9 15 9 false (.eqs false 2 (.st [(0, 1, false, .int), (1, 1, false, .int)]) (.t 10) (.t 14)), p_ 10 16 (.pick (.t 9) (.c (.bool true)) (.t 15)), p_ 11 17 (m_ 16), pg_ 12 18 17 false (m_ 0), pg_ 13 19 17 false (n_ 18), pg_ 14 20 17 false (f_ 0 19), rg_ 15 21 17 false (.ld true 3 (.t 20)), rg_ 16 22 17 false (.ld true 2 (.t 4)), cg_ 17 23 17 false 31 [.t 21, .t 22], pg_ 18 24 17 false (.bin 3 0 (.t 23) (i_ 0)), p_ 19 25 (.pick (.t 17) (.c (.bool true)) (.t 24)), p_ 20 26 (m_ 25), pg_ 21 27 26 false (m_ 2), pg_ 22 28 26 false (m_ 0), pg_ 23 29 26 false (n_ 28), pg_ 24 30 26 false (f_ 5 29), rg_ 25 31 26 false (l_ 30), pg_ 26 32 26 false (k_ 31), pg_ 27 33 26 false (.bin 3 2 (.t 27) (.t 32)), p_ 28 34 (.pick (.t 26) (.c (.bool true)) (.t 33))]) (.cond (.t 34) .ret .skip)) (.seq (h_ 14 [p_ 0 35 (m_ 0), p_ 1 36 (n_ 35), p_ 2 37 (f_ 9 36), r_ 3 38 (l_ 37), r_ 4 39 (.ld true 2 (.t 4)), p_ 5 40 (m_ 0), p_ 6 41 (n_ 40), p_ 7 42 (f_ 9 41), r_ 8 43 (l_ 42), r_ 9 44 (.ld true 2 (.t 4)), r_ 10 45 (.lk 2 (.st [(0, 1, false, .int), (1, 1, false, .int)]) (o_ 0) false (.t 43) (.t 44)), p_ 11 46 (m_ 2), p_ 12 47 (.mx true (.t 45) (.t 46)), e0_ 13 (.mu 2 (.st [(0, 1, false, .int), (1, 1, false, .int)]) (.t 38) (.t 39) (.t 47))]) (g_ 2 [p_ 0 48 (m_ 0), c_ 1 49 37 [.t 48]])))))
theorem ft_ack1_ok : chkF Try.prog 19 ft_ack1 = true := by kernel_rfl
structure A_ack1 where
 l : List Int
 com : Int
 sh : Prop
 c0 : Int
 w : Int
 up : Int
structure R_ack1 where
 com : Int
 c0 : Int
def po_ack1 (p : A_ack1) (r : R_ack1) : Prop := ([r.c0] = [p.c0] ∧ r.com = p.com) ∨ ∃ j : Nat, 1 ≤ j ∧ j < 1 ∧ p.w = (j : Int) ∧ p.up ≤ (p.l.length : Int) ∧ [r.c0] = ([p.c0].set j (max ([p.c0].getD j 0) p.up)).set 0 (p.l.length : Int) ∧ comR 1 p.com r.com [r.c0]
noncomputable def I_ack1 (p : A_ack1) : IE := ([.ptr 0 0, .agg [.sy (.int 1 p.w), .int 2 (.ofNat 1)], .sy (.int 0 p.up)], (Ro1n p.l p.com p.sh p.c0), 4)
noncomputable def out_ack1 (p : A_ack1) (K : KE) : Bool := allB fun r : R_ack1 => iP (po_ack1 p r) (K (.tup []) (Ro1n p.l r.com p.sh r.c0) 4) true
def pre_ack1 (p : A_ack1) : Prop := 0 ≤ p.w ∧ p.w < 1
theorem fin_ack1 {p : A_ack1} {K : KE} (hK : out_ack1 p K = true) (r : R_ack1) (h : po_ack1 p r) : K (.tup []) (Ro1n p.l r.com p.sh r.c0) 4 = true := ifB_use h (allB_ok hK r)
theorem vf_ack1 (p : A_ack1) (K : KE) (hpre : pre_ack1 p) (hK : out_ack1 p K = true) : (funE 1 (cfT nat_add5) noLp 600 ft_ack1 (I_ack1 p).1 (I_ack1 p).2.1 (I_ack1 p).2.2 K) = true := by
 refine Eq.trans (b := (let z0 : Bool := (K (.tup []) (Ro1n p.l p.com p.sh p.c0) 4); iP (p.w = 0) z0 (iP (p.w = 1) z0 (iP (p.w = 2) z0 (iP (p.w = 3) z0 (iP (p.w = 4) z0 (mP (False) (true)))))))) (by kernel_rfl) ?_
 dsimp only [pre_ack1] at hpre
 refine iI (fun hc1 => ?_) (fun hc1 => ?_)
 exact fin_ack1 hK ⟨p.com, p.c0⟩ (by dsimp only [po_ack1] <;> (first | exact .inl ⟨rfl, rfl⟩ | (exfalso; omega)))
 refine iI (fun hc2 => ?_) (fun hc2 => ?_)
 exact fin_ack1 hK ⟨p.com, p.c0⟩ (by dsimp only [po_ack1] <;> (first | exact .inl ⟨rfl, rfl⟩ | (exfalso; omega)))
 refine iI (fun hc3 => ?_) (fun hc3 => ?_)
 exact fin_ack1 hK ⟨p.com, p.c0⟩ (by dsimp only [po_ack1] <;> (first | exact .inl ⟨rfl, rfl⟩ | (exfalso; omega)))
 refine iI (fun hc4 => ?_) (fun hc4 => ?_)
 exact fin_ack1 hK ⟨p.com, p.c0⟩ (by dsimp only [po_ack1] <;> (first | exact .inl ⟨rfl, rfl⟩ | (exfalso; omega)))
 refine iI (fun hc5 => ?_) (fun hc5 => ?_)
 exact fin_ack1 hK ⟨p.com, p.c0⟩ (by dsimp only [po_ack1] <;> (first | exact .inl ⟨rfl, rfl⟩ | (exfalso; omega)))
 refine mI (by omega) ?_
 rfl
noncomputable def ec_ack1 : SpecE := tstE (elB 1 1) (esOf I_ack1 (spP pre_ack1 out_ack1)) (fun _ _ _ _ => false)
theorem nc_ack1 : NatE Try.prog 19 1 ec_ack1 := tstE_ok (natE_pl (f := 19) (k := 1) (cfT_ok nat_add5_ok) ft_ack1_ok (by rfl) (by rfl) vf_ack1) natE_no
noncomputable def nat_ack1 := natC nat_add5 1 ec_ack1 19 [(0, 4), (1, 15), (2, 20)]
theorem nat_ack1_ok : NatsOk Try.prog nat_ack1 := natC_ok nc_ack1 nat_add5_ok
def ft_ack2 : XF := ft_ack1
theorem ft_ack2_ok : chkF Try.prog 19 ft_ack2 = true := ft_ack1_ok
structure A_ack2 where
 l : List Int
 com : Int
 sh : Prop
 c0 : Int
 c1 : Int
 w : Int
 up : Int
structure R_ack2 where
 com : Int
 c0 : Int
 c1 : Int
def po_ack2 (p : A_ack2) (r : R_ack2) : Prop := ([r.c0, r.c1] = [p.c0, p.c1] ∧ r.com = p.com) ∨ ∃ j : Nat, 1 ≤ j ∧ j < 2 ∧ p.w = (j : Int) ∧ p.up ≤ (p.l.length : Int) ∧ [r.c0, r.c1] = ([p.c0, p.c1].set j (max ([p.c0, p.c1].getD j 0) p.up)).set 0 (p.l.length : Int) ∧ comR 2 p.com r.com [r.c0, r.c1]
noncomputable def I_ack2 (p : A_ack2) : IE := ([.ptr 0 0, .agg [.sy (.int 1 p.w), .int 2 (.ofNat 1)], .sy (.int 0 p.up)], (Ro2n p.l p.com p.sh p.c0 p.c1), 4)
noncomputable def out_ack2 (p : A_ack2) (K : KE) : Bool := allB fun r : R_ack2 => iP (po_ack2 p r) (K (.tup []) (Ro2n p.l r.com p.sh r.c0 r.c1) 4) true
def pre_ack2 (p : A_ack2) : Prop := 0 ≤ p.w ∧ p.w < 2
theorem fin_ack2 {p : A_ack2} {K : KE} (hK : out_ack2 p K = true) (r : R_ack2) (h : po_ack2 p r) : K (.tup []) (Ro2n p.l r.com p.sh r.c0 r.c1) 4 = true := ifB_use h (allB_ok hK r)
theorem vf_ack2 (p : A_ack2) (K : KE) (hpre : pre_ack2 p) (hK : out_ack2 p K = true) : (funE 1 (cfT nat_ack1) noLp 600 ft_ack2 (I_ack2 p).1 (I_ack2 p).2.1 (I_ack2 p).2.2 K) = true := by
 refine Eq.trans (b := (let z0 : Bool := (K (.tup []) (Ro2n p.l p.com p.sh p.c0 p.c1) 4); iP (p.w = 0) z0 (iP (p.w = 1) (iP ((p.l.length : Int) < p.up) z0 (exB fun p1 : A_settle2 => mP (([.ptr 0 0], (Ro2n p.l p.com p.sh p.c0 (max p.c1 p.up)), 4) = I_settle2 p1) (allB fun r1 : R_settle2 => iP (po_settle2 p1 r1) (K (.tup []) (Ro2n p1.l r1.com p1.sh (p1.l.length : Int) p1.c1) 4) true))) (iP (p.w = 2) z0 (iP (p.w = 3) z0 (iP (p.w = 4) z0 (mP (False) (true)))))))) (by kernel_rfl) ?_
 dsimp only [pre_ack2] at hpre
 refine iI (fun hc1 => ?_) (fun hc1 => ?_)
 exact fin_ack2 hK ⟨p.com, p.c0, p.c1⟩ (by dsimp only [po_ack2] <;> (first | exact .inl ⟨rfl, rfl⟩ | (exfalso; omega)))
 refine iI (fun hc2 => ?_) (fun hc2 => ?_)
 refine iI (fun hc3 => ?_) (fun hc3 => ?_)
 exact fin_ack2 hK ⟨p.com, p.c0, p.c1⟩ (by dsimp only [po_ack2] <;> (first | exact .inl ⟨rfl, rfl⟩ | (exfalso; omega)))
 refine callR (⟨p.l, p.com, p.sh, p.c0, max p.c1 p.up⟩ : A_settle2) rfl fun r1 hi4 => ?_
 dsimp only [po_settle2] at hi4
 exact fin_ack2 hK ⟨r1.com, (p.l.length : Int), (max p.c1 p.up)⟩ (by dsimp only [po_ack2] <;> (first | exact .inl ⟨rfl, rfl⟩ | (exfalso; omega) | exact .inr ⟨1, by decide, by decide, by omega, by omega, rfl, by assumption⟩))
 refine iI (fun hc5 => ?_) (fun hc5 => ?_)
 exact fin_ack2 hK ⟨p.com, p.c0, p.c1⟩ (by dsimp only [po_ack2] <;> (first | exact .inl ⟨rfl, rfl⟩ | (exfalso; omega)))
 refine iI (fun hc6 => ?_) (fun hc6 => ?_)
 exact fin_ack2 hK ⟨p.com, p.c0, p.c1⟩ (by dsimp only [po_ack2] <;> (first | exact .inl ⟨rfl, rfl⟩ | (exfalso; omega)))
 refine iI (fun hc7 => ?_) (fun hc7 => ?_)
 exact fin_ack2 hK ⟨p.com, p.c0, p.c1⟩ (by dsimp only [po_ack2] <;> (first | exact .inl ⟨rfl, rfl⟩ | (exfalso; omega)))
 refine mI (by omega) ?_
 rfl
noncomputable def ec_ack2 : SpecE := tstE (elB 1 2) (esOf I_ack2 (spP pre_ack2 out_ack2)) ec_ack1
theorem nc_ack2 : NatE Try.prog 19 1 ec_ack2 := tstE_ok (natE_pl (f := 19) (k := 1) (cfT_ok nat_ack1_ok) ft_ack2_ok (by rfl) (by rfl) vf_ack2) nc_ack1
noncomputable def nat_ack2 := natC nat_ack1 1 ec_ack2 19 [(0, 4), (1, 15), (2, 20)]
theorem nat_ack2_ok : NatsOk Try.prog nat_ack2 := natC_ok nc_ack2 nat_ack1_ok
def ft_ack3 : XF := ft_ack1
theorem ft_ack3_ok : chkF Try.prog 19 ft_ack3 = true := ft_ack1_ok
structure A_ack3 where
 l : List Int
 com : Int
 sh : Prop
 c0 : Int
 c1 : Int
 c2 : Int
 w : Int
 up : Int
structure R_ack3 where
 com : Int
 c0 : Int
 c1 : Int
 c2 : Int
def po_ack3 (p : A_ack3) (r : R_ack3) : Prop := ([r.c0, r.c1, r.c2] = [p.c0, p.c1, p.c2] ∧ r.com = p.com) ∨ ∃ j : Nat, 1 ≤ j ∧ j < 3 ∧ p.w = (j : Int) ∧ p.up ≤ (p.l.length : Int) ∧ [r.c0, r.c1, r.c2] = ([p.c0, p.c1, p.c2].set j (max ([p.c0, p.c1, p.c2].getD j 0) p.up)).set 0 (p.l.length : Int) ∧ comR 2 p.com r.com [r.c0, r.c1, r.c2]
noncomputable def I_ack3 (p : A_ack3) : IE := ([.ptr 0 0, .agg [.sy (.int 1 p.w), .int 2 (.ofNat 1)], .sy (.int 0 p.up)], (Ro3n p.l p.com p.sh p.c0 p.c1 p.c2), 4)
noncomputable def out_ack3 (p : A_ack3) (K : KE) : Bool := allB fun r : R_ack3 => iP (po_ack3 p r) (K (.tup []) (Ro3n p.l r.com p.sh r.c0 r.c1 r.c2) 4) true
def pre_ack3 (p : A_ack3) : Prop := 0 ≤ p.w ∧ p.w < 3
theorem fin_ack3 {p : A_ack3} {K : KE} (hK : out_ack3 p K = true) (r : R_ack3) (h : po_ack3 p r) : K (.tup []) (Ro3n p.l r.com p.sh r.c0 r.c1 r.c2) 4 = true := ifB_use h (allB_ok hK r)
theorem vf_ack3 (p : A_ack3) (K : KE) (hpre : pre_ack3 p) (hK : out_ack3 p K = true) : (funE 1 (cfT nat_ack2) noLp 600 ft_ack3 (I_ack3 p).1 (I_ack3 p).2.1 (I_ack3 p).2.2 K) = true := by
 refine Eq.trans (b := (let z0 : Bool := (K (.tup []) (Ro3n p.l p.com p.sh p.c0 p.c1 p.c2) 4); iP (p.w = 0) z0 (iP (p.w = 1) (iP ((p.l.length : Int) < p.up) z0 (exB fun p2 : A_settle3 => mP (([.ptr 0 0], (Ro3n p.l p.com p.sh p.c0 (max p.c1 p.up) p.c2), 4) = I_settle3 p2) (allB fun r2 : R_settle3 => iP (po_settle3 p2 r2) (K (.tup []) (Ro3n p2.l r2.com p2.sh (p2.l.length : Int) p2.c1 p2.c2) 4) true))) (iP (p.w = 2) (iP ((p.l.length : Int) < p.up) z0 (exB fun p1 : A_settle3 => mP (([.ptr 0 0], (Ro3n p.l p.com p.sh p.c0 p.c1 (max p.c2 p.up)), 4) = I_settle3 p1) (allB fun r1 : R_settle3 => iP (po_settle3 p1 r1) (K (.tup []) (Ro3n p1.l r1.com p1.sh (p1.l.length : Int) p1.c1 p1.c2) 4) true))) (iP (p.w = 3) z0 (iP (p.w = 4) z0 (mP (False) (true)))))))) (by kernel_rfl) ?_
 dsimp only [pre_ack3] at hpre
 refine iI (fun hc1 => ?_) (fun hc1 => ?_)
 exact fin_ack3 hK ⟨p.com, p.c0, p.c1, p.c2⟩ (by dsimp only [po_ack3] <;> (first | exact .inl ⟨rfl, rfl⟩ | (exfalso; omega)))
 refine iI (fun hc2 => ?_) (fun hc2 => ?_)
 refine iI (fun hc3 => ?_) (fun hc3 => ?_)
 exact fin_ack3 hK ⟨p.com, p.c0, p.c1, p.c2⟩ (by dsimp only [po_ack3] <;> (first | exact .inl ⟨rfl, rfl⟩ | (exfalso; omega)))
 refine callR (⟨p.l, p.com, p.sh, p.c0, max p.c1 p.up, p.c2⟩ : A_settle3) rfl fun r2 hi4 => ?_
 dsimp only [po_settle3] at hi4
 exact fin_ack3 hK ⟨r2.com, (p.l.length : Int), (max p.c1 p.up), p.c2⟩ (by dsimp only [po_ack3] <;> (first | exact .inl ⟨rfl, rfl⟩ | (exfalso; omega) | exact .inr ⟨1, by decide, by decide, by omega, by omega, rfl, by assumption⟩ | exact .inr ⟨2, by decide, by decide, by omega, by omega, rfl, by assumption⟩))
 refine iI (fun hc5 => ?_) (fun hc5 => ?_)
 refine iI (fun hc6 => ?_) (fun hc6 => ?_)
 exact fin_ack3 hK ⟨p.com, p.c0, p.c1, p.c2⟩ (by dsimp only [po_ack3] <;> (first | exact .inl ⟨rfl, rfl⟩ | (exfalso; omega)))
 refine callR (⟨p.l, p.com, p.sh, p.c0, p.c1, max p.c2 p.up⟩ : A_settle3) rfl fun r1 hi7 => ?_
 dsimp only [po_settle3] at hi7
 exact fin_ack3 hK ⟨r1.com, (p.l.length : Int), p.c1, (max p.c2 p.up)⟩ (by dsimp only [po_ack3] <;> (first | exact .inl ⟨rfl, rfl⟩ | (exfalso; omega) | exact .inr ⟨1, by decide, by decide, by omega, by omega, rfl, by assumption⟩ | exact .inr ⟨2, by decide, by decide, by omega, by omega, rfl, by assumption⟩))
 refine iI (fun hc8 => ?_) (fun hc8 => ?_)
 exact fin_ack3 hK ⟨p.com, p.c0, p.c1, p.c2⟩ (by dsimp only [po_ack3] <;> (first | exact .inl ⟨rfl, rfl⟩ | (exfalso; omega)))
 refine iI (fun hc9 => ?_) (fun hc9 => ?_)
 exact fin_ack3 hK ⟨p.com, p.c0, p.c1, p.c2⟩ (by dsimp only [po_ack3] <;> (first | exact .inl ⟨rfl, rfl⟩ | (exfalso; omega)))
 refine mI (by omega) ?_
 rfl
noncomputable def ec_ack3 : SpecE := tstE (elB 1 3) (esOf I_ack3 (spP pre_ack3 out_ack3)) ec_ack2
theorem nc_ack3 : NatE Try.prog 19 1 ec_ack3 := tstE_ok (natE_pl (f := 19) (k := 1) (cfT_ok nat_ack2_ok) ft_ack3_ok (by rfl) (by rfl) vf_ack3) nc_ack2
noncomputable def nat_ack3 := natC nat_ack2 1 ec_ack3 19 [(0, 4), (1, 15), (2, 20)]
theorem nat_ack3_ok : NatsOk Try.prog nat_ack3 := natC_ok nc_ack3 nat_ack2_ok
def ft_ack4 : XF := ft_ack1
theorem ft_ack4_ok : chkF Try.prog 19 ft_ack4 = true := ft_ack1_ok
structure A_ack4 where
 l : List Int
 com : Int
 sh : Prop
 c0 : Int
 c1 : Int
 c2 : Int
 c3 : Int
 w : Int
 up : Int
structure R_ack4 where
 com : Int
 c0 : Int
 c1 : Int
 c2 : Int
 c3 : Int
def po_ack4 (p : A_ack4) (r : R_ack4) : Prop := ([r.c0, r.c1, r.c2, r.c3] = [p.c0, p.c1, p.c2, p.c3] ∧ r.com = p.com) ∨ ∃ j : Nat, 1 ≤ j ∧ j < 4 ∧ p.w = (j : Int) ∧ p.up ≤ (p.l.length : Int) ∧ [r.c0, r.c1, r.c2, r.c3] = ([p.c0, p.c1, p.c2, p.c3].set j (max ([p.c0, p.c1, p.c2, p.c3].getD j 0) p.up)).set 0 (p.l.length : Int) ∧ comR 3 p.com r.com [r.c0, r.c1, r.c2, r.c3]
noncomputable def I_ack4 (p : A_ack4) : IE := ([.ptr 0 0, .agg [.sy (.int 1 p.w), .int 2 (.ofNat 1)], .sy (.int 0 p.up)], (Ro4n p.l p.com p.sh p.c0 p.c1 p.c2 p.c3), 4)
noncomputable def out_ack4 (p : A_ack4) (K : KE) : Bool := allB fun r : R_ack4 => iP (po_ack4 p r) (K (.tup []) (Ro4n p.l r.com p.sh r.c0 r.c1 r.c2 r.c3) 4) true
def pre_ack4 (p : A_ack4) : Prop := 0 ≤ p.w ∧ p.w < 4
theorem fin_ack4 {p : A_ack4} {K : KE} (hK : out_ack4 p K = true) (r : R_ack4) (h : po_ack4 p r) : K (.tup []) (Ro4n p.l r.com p.sh r.c0 r.c1 r.c2 r.c3) 4 = true := ifB_use h (allB_ok hK r)
theorem vf_ack4 (p : A_ack4) (K : KE) (hpre : pre_ack4 p) (hK : out_ack4 p K = true) : (funE 1 (cfT nat_ack3) noLp 600 ft_ack4 (I_ack4 p).1 (I_ack4 p).2.1 (I_ack4 p).2.2 K) = true := by
 refine Eq.trans (b := (let z0 : Bool := (K (.tup []) (Ro4n p.l p.com p.sh p.c0 p.c1 p.c2 p.c3) 4); iP (p.w = 0) z0 (iP (p.w = 1) (iP ((p.l.length : Int) < p.up) z0 (exB fun p3 : A_settle4 => mP (([.ptr 0 0], (Ro4n p.l p.com p.sh p.c0 (max p.c1 p.up) p.c2 p.c3), 4) = I_settle4 p3) (allB fun r3 : R_settle4 => iP (po_settle4 p3 r3) (K (.tup []) (Ro4n p3.l r3.com p3.sh (p3.l.length : Int) p3.c1 p3.c2 p3.c3) 4) true))) (iP (p.w = 2) (iP ((p.l.length : Int) < p.up) z0 (exB fun p2 : A_settle4 => mP (([.ptr 0 0], (Ro4n p.l p.com p.sh p.c0 p.c1 (max p.c2 p.up) p.c3), 4) = I_settle4 p2) (allB fun r2 : R_settle4 => iP (po_settle4 p2 r2) (K (.tup []) (Ro4n p2.l r2.com p2.sh (p2.l.length : Int) p2.c1 p2.c2 p2.c3) 4) true))) (iP (p.w = 3) (iP ((p.l.length : Int) < p.up) z0 (exB fun p1 : A_settle4 => mP (([.ptr 0 0], (Ro4n p.l p.com p.sh p.c0 p.c1 p.c2 (max p.c3 p.up)), 4) = I_settle4 p1) (allB fun r1 : R_settle4 => iP (po_settle4 p1 r1) (K (.tup []) (Ro4n p1.l r1.com p1.sh (p1.l.length : Int) p1.c1 p1.c2 p1.c3) 4) true))) (iP (p.w = 4) z0 (mP (False) (true)))))))) (by kernel_rfl) ?_
 dsimp only [pre_ack4] at hpre
 refine iI (fun hc1 => ?_) (fun hc1 => ?_)
 exact fin_ack4 hK ⟨p.com, p.c0, p.c1, p.c2, p.c3⟩ (by dsimp only [po_ack4] <;> (first | exact .inl ⟨rfl, rfl⟩ | (exfalso; omega)))
 refine iI (fun hc2 => ?_) (fun hc2 => ?_)
 refine iI (fun hc3 => ?_) (fun hc3 => ?_)
 exact fin_ack4 hK ⟨p.com, p.c0, p.c1, p.c2, p.c3⟩ (by dsimp only [po_ack4] <;> (first | exact .inl ⟨rfl, rfl⟩ | (exfalso; omega)))
 refine callR (⟨p.l, p.com, p.sh, p.c0, max p.c1 p.up, p.c2, p.c3⟩ : A_settle4) rfl fun r3 hi4 => ?_
 dsimp only [po_settle4] at hi4
 exact fin_ack4 hK ⟨r3.com, (p.l.length : Int), (max p.c1 p.up), p.c2, p.c3⟩ (by dsimp only [po_ack4] <;> (first | exact .inl ⟨rfl, rfl⟩ | (exfalso; omega) | exact .inr ⟨1, by decide, by decide, by omega, by omega, rfl, by assumption⟩ | exact .inr ⟨2, by decide, by decide, by omega, by omega, rfl, by assumption⟩ | exact .inr ⟨3, by decide, by decide, by omega, by omega, rfl, by assumption⟩))
 refine iI (fun hc5 => ?_) (fun hc5 => ?_)
 refine iI (fun hc6 => ?_) (fun hc6 => ?_)
 exact fin_ack4 hK ⟨p.com, p.c0, p.c1, p.c2, p.c3⟩ (by dsimp only [po_ack4] <;> (first | exact .inl ⟨rfl, rfl⟩ | (exfalso; omega)))
 refine callR (⟨p.l, p.com, p.sh, p.c0, p.c1, max p.c2 p.up, p.c3⟩ : A_settle4) rfl fun r2 hi7 => ?_
 dsimp only [po_settle4] at hi7
 exact fin_ack4 hK ⟨r2.com, (p.l.length : Int), p.c1, (max p.c2 p.up), p.c3⟩ (by dsimp only [po_ack4] <;> (first | exact .inl ⟨rfl, rfl⟩ | (exfalso; omega) | exact .inr ⟨1, by decide, by decide, by omega, by omega, rfl, by assumption⟩ | exact .inr ⟨2, by decide, by decide, by omega, by omega, rfl, by assumption⟩ | exact .inr ⟨3, by decide, by decide, by omega, by omega, rfl, by assumption⟩))
 refine iI (fun hc8 => ?_) (fun hc8 => ?_)
 refine iI (fun hc9 => ?_) (fun hc9 => ?_)
 exact fin_ack4 hK ⟨p.com, p.c0, p.c1, p.c2, p.c3⟩ (by dsimp only [po_ack4] <;> (first | exact .inl ⟨rfl, rfl⟩ | (exfalso; omega)))
 refine callR (⟨p.l, p.com, p.sh, p.c0, p.c1, p.c2, max p.c3 p.up⟩ : A_settle4) rfl fun r1 hi10 => ?_
 dsimp only [po_settle4] at hi10
 exact fin_ack4 hK ⟨r1.com, (p.l.length : Int), p.c1, p.c2, (max p.c3 p.up)⟩ (by dsimp only [po_ack4] <;> (first | exact .inl ⟨rfl, rfl⟩ | (exfalso; omega) | exact .inr ⟨1, by decide, by decide, by omega, by omega, rfl, by assumption⟩ | exact .inr ⟨2, by decide, by decide, by omega, by omega, rfl, by assumption⟩ | exact .inr ⟨3, by decide, by decide, by omega, by omega, rfl, by assumption⟩))
 refine iI (fun hc11 => ?_) (fun hc11 => ?_)
 exact fin_ack4 hK ⟨p.com, p.c0, p.c1, p.c2, p.c3⟩ (by dsimp only [po_ack4] <;> (first | exact .inl ⟨rfl, rfl⟩ | (exfalso; omega)))
 refine mI (by omega) ?_
 rfl
noncomputable def ec_ack4 : SpecE := tstE (elB 1 4) (esOf I_ack4 (spP pre_ack4 out_ack4)) ec_ack3
theorem nc_ack4 : NatE Try.prog 19 1 ec_ack4 := tstE_ok (natE_pl (f := 19) (k := 1) (cfT_ok nat_ack3_ok) ft_ack4_ok (by rfl) (by rfl) vf_ack4) nc_ack3
noncomputable def nat_ack4 := natC nat_ack3 1 ec_ack4 19 [(0, 4), (1, 15), (2, 20)]
theorem nat_ack4_ok : NatsOk Try.prog nat_ack4 := natC_ok nc_ack4 nat_ack3_ok
def ft_ack5 : XF := ft_ack1
theorem ft_ack5_ok : chkF Try.prog 19 ft_ack5 = true := ft_ack1_ok
structure A_ack5 where
 l : List Int
 com : Int
 sh : Prop
 c0 : Int
 c1 : Int
 c2 : Int
 c3 : Int
 c4 : Int
 w : Int
 up : Int
structure R_ack5 where
 com : Int
 c0 : Int
 c1 : Int
 c2 : Int
 c3 : Int
 c4 : Int
def po_ack5 (p : A_ack5) (r : R_ack5) : Prop := ([r.c0, r.c1, r.c2, r.c3, r.c4] = [p.c0, p.c1, p.c2, p.c3, p.c4] ∧ r.com = p.com) ∨ ∃ j : Nat, 1 ≤ j ∧ j < 5 ∧ p.w = (j : Int) ∧ p.up ≤ (p.l.length : Int) ∧ [r.c0, r.c1, r.c2, r.c3, r.c4] = ([p.c0, p.c1, p.c2, p.c3, p.c4].set j (max ([p.c0, p.c1, p.c2, p.c3, p.c4].getD j 0) p.up)).set 0 (p.l.length : Int) ∧ comR 3 p.com r.com [r.c0, r.c1, r.c2, r.c3, r.c4]
noncomputable def I_ack5 (p : A_ack5) : IE := ([.ptr 0 0, .agg [.sy (.int 1 p.w), .int 2 (.ofNat 1)], .sy (.int 0 p.up)], (Ro5n p.l p.com p.sh p.c0 p.c1 p.c2 p.c3 p.c4), 4)
noncomputable def out_ack5 (p : A_ack5) (K : KE) : Bool := allB fun r : R_ack5 => iP (po_ack5 p r) (K (.tup []) (Ro5n p.l r.com p.sh r.c0 r.c1 r.c2 r.c3 r.c4) 4) true
def pre_ack5 (p : A_ack5) : Prop := 0 ≤ p.w ∧ p.w < 5
theorem fin_ack5 {p : A_ack5} {K : KE} (hK : out_ack5 p K = true) (r : R_ack5) (h : po_ack5 p r) : K (.tup []) (Ro5n p.l r.com p.sh r.c0 r.c1 r.c2 r.c3 r.c4) 4 = true := ifB_use h (allB_ok hK r)
theorem vf_ack5 (p : A_ack5) (K : KE) (hpre : pre_ack5 p) (hK : out_ack5 p K = true) : (funE 1 (cfT nat_ack4) noLp 600 ft_ack5 (I_ack5 p).1 (I_ack5 p).2.1 (I_ack5 p).2.2 K) = true := by
 refine Eq.trans (b := (let z0 : Bool := (K (.tup []) (Ro5n p.l p.com p.sh p.c0 p.c1 p.c2 p.c3 p.c4) 4); iP (p.w = 0) z0 (iP (p.w = 1) (iP ((p.l.length : Int) < p.up) z0 (exB fun p4 : A_settle5 => mP (([.ptr 0 0], (Ro5n p.l p.com p.sh p.c0 (max p.c1 p.up) p.c2 p.c3 p.c4), 4) = I_settle5 p4) (allB fun r4 : R_settle5 => iP (po_settle5 p4 r4) (K (.tup []) (Ro5n p4.l r4.com p4.sh (p4.l.length : Int) p4.c1 p4.c2 p4.c3 p4.c4) 4) true))) (iP (p.w = 2) (iP ((p.l.length : Int) < p.up) z0 (exB fun p3 : A_settle5 => mP (([.ptr 0 0], (Ro5n p.l p.com p.sh p.c0 p.c1 (max p.c2 p.up) p.c3 p.c4), 4) = I_settle5 p3) (allB fun r3 : R_settle5 => iP (po_settle5 p3 r3) (K (.tup []) (Ro5n p3.l r3.com p3.sh (p3.l.length : Int) p3.c1 p3.c2 p3.c3 p3.c4) 4) true))) (iP (p.w = 3) (iP ((p.l.length : Int) < p.up) z0 (exB fun p2 : A_settle5 => mP (([.ptr 0 0], (Ro5n p.l p.com p.sh p.c0 p.c1 p.c2 (max p.c3 p.up) p.c4), 4) = I_settle5 p2) (allB fun r2 : R_settle5 => iP (po_settle5 p2 r2) (K (.tup []) (Ro5n p2.l r2.com p2.sh (p2.l.length : Int) p2.c1 p2.c2 p2.c3 p2.c4) 4) true))) (iP (p.w = 4) (iP ((p.l.length : Int) < p.up) z0 (exB fun p1 : A_settle5 => mP (([.ptr 0 0], (Ro5n p.l p.com p.sh p.c0 p.c1 p.c2 p.c3 (max p.c4 p.up)), 4) = I_settle5 p1) (allB fun r1 : R_settle5 => iP (po_settle5 p1 r1) (K (.tup []) (Ro5n p1.l r1.com p1.sh (p1.l.length : Int) p1.c1 p1.c2 p1.c3 p1.c4) 4) true))) (mP (False) (true)))))))) (by kernel_rfl) ?_
 dsimp only [pre_ack5] at hpre
 refine iI (fun hc1 => ?_) (fun hc1 => ?_)
 exact fin_ack5 hK ⟨p.com, p.c0, p.c1, p.c2, p.c3, p.c4⟩ (by dsimp only [po_ack5] <;> (first | exact .inl ⟨rfl, rfl⟩ | (exfalso; omega)))
 refine iI (fun hc2 => ?_) (fun hc2 => ?_)
 refine iI (fun hc3 => ?_) (fun hc3 => ?_)
 exact fin_ack5 hK ⟨p.com, p.c0, p.c1, p.c2, p.c3, p.c4⟩ (by dsimp only [po_ack5] <;> (first | exact .inl ⟨rfl, rfl⟩ | (exfalso; omega)))
 refine callR (⟨p.l, p.com, p.sh, p.c0, max p.c1 p.up, p.c2, p.c3, p.c4⟩ : A_settle5) rfl fun r4 hi4 => ?_
 dsimp only [po_settle5] at hi4
 exact fin_ack5 hK ⟨r4.com, (p.l.length : Int), (max p.c1 p.up), p.c2, p.c3, p.c4⟩ (by dsimp only [po_ack5] <;> (first | exact .inl ⟨rfl, rfl⟩ | (exfalso; omega) | exact .inr ⟨1, by decide, by decide, by omega, by omega, rfl, by assumption⟩ | exact .inr ⟨2, by decide, by decide, by omega, by omega, rfl, by assumption⟩ | exact .inr ⟨3, by decide, by decide, by omega, by omega, rfl, by assumption⟩ | exact .inr ⟨4, by decide, by decide, by omega, by omega, rfl, by assumption⟩))
 refine iI (fun hc5 => ?_) (fun hc5 => ?_)
 refine iI (fun hc6 => ?_) (fun hc6 => ?_)
 exact fin_ack5 hK ⟨p.com, p.c0, p.c1, p.c2, p.c3, p.c4⟩ (by dsimp only [po_ack5] <;> (first | exact .inl ⟨rfl, rfl⟩ | (exfalso; omega)))
 refine callR (⟨p.l, p.com, p.sh, p.c0, p.c1, max p.c2 p.up, p.c3, p.c4⟩ : A_settle5) rfl fun r3 hi7 => ?_
 dsimp only [po_settle5] at hi7
 exact fin_ack5 hK ⟨r3.com, (p.l.length : Int), p.c1, (max p.c2 p.up), p.c3, p.c4⟩ (by dsimp only [po_ack5] <;> (first | exact .inl ⟨rfl, rfl⟩ | (exfalso; omega) | exact .inr ⟨1, by decide, by decide, by omega, by omega, rfl, by assumption⟩ | exact .inr ⟨2, by decide, by decide, by omega, by omega, rfl, by assumption⟩ | exact .inr ⟨3, by decide, by decide, by omega, by omega, rfl, by assumption⟩ | exact .inr ⟨4, by decide, by decide, by omega, by omega, rfl, by assumption⟩))
 refine iI (fun hc8 => ?_) (fun hc8 => ?_)
 refine iI (fun hc9 => ?_) (fun hc9 => ?_)
 exact fin_ack5 hK ⟨p.com, p.c0, p.c1, p.c2, p.c3, p.c4⟩ (by dsimp only [po_ack5] <;> (first | exact .inl ⟨rfl, rfl⟩ | (exfalso; omega)))
 refine callR (⟨p.l, p.com, p.sh, p.c0, p.c1, p.c2, max p.c3 p.up, p.c4⟩ : A_settle5) rfl fun r2 hi10 => ?_
 dsimp only [po_settle5] at hi10
 exact fin_ack5 hK ⟨r2.com, (p.l.length : Int), p.c1, p.c2, (max p.c3 p.up), p.c4⟩ (by dsimp only [po_ack5] <;> (first | exact .inl ⟨rfl, rfl⟩ | (exfalso; omega) | exact .inr ⟨1, by decide, by decide, by omega, by omega, rfl, by assumption⟩ | exact .inr ⟨2, by decide, by decide, by omega, by omega, rfl, by assumption⟩ | exact .inr ⟨3, by decide, by decide, by omega, by omega, rfl, by assumption⟩ | exact .inr ⟨4, by decide, by decide, by omega, by omega, rfl, by assumption⟩))
 refine iI (fun hc11 => ?_) (fun hc11 => ?_)
 refine iI (fun hc12 => ?_) (fun hc12 => ?_)
 exact fin_ack5 hK ⟨p.com, p.c0, p.c1, p.c2, p.c3, p.c4⟩ (by dsimp only [po_ack5] <;> (first | exact .inl ⟨rfl, rfl⟩ | (exfalso; omega)))
 refine callR (⟨p.l, p.com, p.sh, p.c0, p.c1, p.c2, p.c3, max p.c4 p.up⟩ : A_settle5) rfl fun r1 hi13 => ?_
 dsimp only [po_settle5] at hi13
 exact fin_ack5 hK ⟨r1.com, (p.l.length : Int), p.c1, p.c2, p.c3, (max p.c4 p.up)⟩ (by dsimp only [po_ack5] <;> (first | exact .inl ⟨rfl, rfl⟩ | (exfalso; omega) | exact .inr ⟨1, by decide, by decide, by omega, by omega, rfl, by assumption⟩ | exact .inr ⟨2, by decide, by decide, by omega, by omega, rfl, by assumption⟩ | exact .inr ⟨3, by decide, by decide, by omega, by omega, rfl, by assumption⟩ | exact .inr ⟨4, by decide, by decide, by omega, by omega, rfl, by assumption⟩))
 refine mI (by omega) ?_
 rfl
noncomputable def ec_ack5 : SpecE := tstE (elB 1 5) (esOf I_ack5 (spP pre_ack5 out_ack5)) ec_ack4
theorem nc_ack5 : NatE Try.prog 19 1 ec_ack5 := tstE_ok (natE_pl (f := 19) (k := 1) (cfT_ok nat_ack4_ok) ft_ack5_ok (by rfl) (by rfl) vf_ack5) nc_ack4
noncomputable def nat_ack5 := natC nat_ack4 1 ec_ack5 19 [(0, 4), (1, 15), (2, 20)]
theorem nat_ack5_ok : NatsOk Try.prog nat_ack5 := natC_ok nc_ack5 nat_ack4_ok
end Go.Proofs.Try