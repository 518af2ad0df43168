/- Definitions and lemmas of the proof, without a condition of their own. -/
import Derived.Test.YtbophbccdmhabaaGreatM1
import Derived.Laws.ResultCell
import Derived.LoopN
import Derived.SizedLaws
import Derived.Test.YtbophbccdmhabaaGreatProg
import Derived.KernelRfl
namespace Go.Sy
open Go Go.RowKit Go.Eng
inductive XRes | none | one (t : Nat) | two (t u : Nat) | cell (t : Nat) (agg : Bool) (n : Nat) | ct (t : Nat) (agg : Bool) (n u : Nat)
inductive XF : Type 1 | mk (N : Nat) (res : XRes) (body : XC)
noncomputable def resX (r : XRes) (S : SL) (M : T) (K : AV → Bool) : Bool := XRes.casesOn r (K (.tup [])) (fun t => nb (getS t S) K) (fun t u => nb (getS t S) fun x => nb (getS u S) fun y => K (.tup [x, y])) (fun t agg n => nb (getS t S) fun p => ldY agg n p M K) (fun t agg n u => nb (getS t S) fun p => ldY agg n p M fun v => nb (getS u S) fun y => K (.tup [v, y]))
noncomputable def argsX (vs : List AV) : Nat → SL → (SL → Bool) → Bool := List.rec (fun _ S K => K S) (fun v _ ih n S K => ih (Nat.succ n) (.cons n v S) K) vs
def chkRes (P : Program) (r : XRes) (rs : List ResultVar) : Bool := match r, rs with
 | .none, [] => true
 | .one t, [.tmp t'] => Nat.beq t t'
 | .two t u, [.tmp t', .tmp u'] => Nat.beq t t' && Nat.beq u u'
 | .cell t agg n, [.cell t' ty] => Nat.beq t t' && decide (isAg P ty = some agg) && decide (szOf P ty = some n)
 | .ct t agg n u, [.cell t' ty, .tmp u'] => Nat.beq t t' && decide (isAg P ty = some agg) && decide (szOf P ty = some n) && Nat.beq u u'
 | _, _ => false
def bodyOf : XF → XC
 | .mk _ _ b => b
def nOf : XF → Nat
 | .mk n _ _ => n
def chkF (P : Program) (f : Nat) (xf : XF) : Bool := match xf, P.funcs[f]? with
 | .mk N res body, some fn => (match fn.body with | some c => Nat.beq fn.ntmps N && chkRes P res fn.results.toList && chkC P N body c | none => false)
 | _, none => false
abbrev SpecE := List AV → T → Nat → (AV → T → Nat → Bool) → Bool
inductive ES : Type 1 | mk (k : Nat) (sp : SpecE)
noncomputable def fP (l : List (Nat × Nat)) : (List (Nat × Nat) → Bool) → Bool := List.rec (fun K => K []) (fun p _ ih K => fN p.1 fun a => fN p.2 fun b => ih fun l => K ((a, b) :: l)) l
theorem fP_eq : ∀ {l : List (Nat × Nat)} {K : List (Nat × Nat) → Bool}, fP l K = K l
 | [], K => rfl
 | p :: l, K => by
  have : fP (p :: l) K = (fN p.1 fun a => fN p.2 fun b => fP l fun l => K ((a, b) :: l)) := rfl
  rw [this, fN_eq, fN_eq, fP_eq]
def belowB (n : Nat) (ps : List (Nat × Nat)) : Bool := ps.all fun p => Nat.blt p.2 n
theorem belowB_ok {n : Nat} {ps : List (Nat × Nat)} (h : belowB n ps = true) : ∀ p ∈ ps, p.2 < n := fun p hp => by
 have := List.all_eq_true.1 h p hp
 simpa [Nat.blt_eq] using this
noncomputable def canV (k : Nat) (v : AV) (M : T) (K : AV → T → Nat → Bool) : Bool := fP (numd 0 (walkI M 200 (upTo k (idsA v)) [])) fun ps => must (pinsB ps k) (must (newsOk ps) (fN ps.length fun n => must (belowB n ps) (renM ps M ps .leaf fun M' => atO (renA ps v) fun v' => K v' M' n)))
noncomputable def delM (l : List (Nat × Nat)) : T → (T → Bool) → Bool := List.rec (fun M K => K M) (fun p _ ih M K => T.set fuelT M p.1 none fun M => ih M K) l
noncomputable def lkB (ps : List (Nat × Nat)) (j : Nat) : Nat := List.rec 0 (fun p _ ih => Bool.rec ih p.1 (Nat.beq p.2 j)) ps
noncomputable def outQ (k nx : Nat) (ps : List (Nat × Nat)) (l : List Nat) : List (Nat × Nat) := List.rec [] (fun j _ ih => (j, Bool.rec (Nat.add nx j) (lkB ps j) (Nat.blt j k)) :: ih) l
def outB (k nx n : Nat) (ps qs : List (Nat × Nat)) : Bool := qs.all fun q => Nat.blt q.1 n && ((Nat.blt q.1 k && ps.any fun p => Nat.beq p.1 q.2 && Nat.beq p.2 q.1) || (Nat.ble k q.1 && Nat.beq q.2 (nx + q.1)))
noncomputable def natGo (k : Nat) (sp : SpecE) (vs : List AV) (M : T) (nx : Nat) (K : AV → T → Nat → Bool) : Bool := fP (numd 0 (walkI M 200 (idsL vs) [])) fun ps => must (newsOk ps) (fN ps.length fun n => must (belowB n ps) (atO (renL ps vs) fun us => renM ps M ps .leaf fun Ml => sp us Ml n fun v M' n' =>
 fP (outQ k nx ps (walkI M' 200 (upTo k (idsA v)) [])) fun qs => must (newsOk qs) (must (outB k nx n' ps qs) (atO (renA qs v) fun v' => delM ps M fun M1 => renM qs M' qs M1 fun M2 => fN (nx + n') fun n2 => K v' M2 n2))))
noncomputable def callX (tab : Nat → Option XF) (nat : Nat → List AV → Option ES) (lp : LpF) (lf : Nat) : Nat → CallF := Nat.rec (fun f vs M nx K => Option.casesOn (nat f vs) false fun es => ES.casesOn es fun k sp => natGo k sp vs M nx K) (fun _ ih f vs M nx K => Option.casesOn (nat f vs) (atO (tab f) fun xf => XF.casesOn xf fun N res body =>
 must (Nat.ble (lenL vs) N) (argsX vs 0 .nil fun S => codeX ih lp lf body S M nx fun e S M nx => ifB (Nat.blt 1 e) false (resX res S M fun v => K v M nx))) fun es => ES.casesOn es fun k sp => natGo k sp vs M nx K)
noncomputable def funE (k : Nat) (cf : CallF) (lp : LpF) (lf : Nat) (xf : XF) (vs : List AV) (M : T) (nx : Nat) (K : AV → T → Nat → Bool) : Bool := XF.casesOn xf fun N res body => must (Nat.ble (lenL vs) N) (argsX vs 0 .nil fun S => codeX cf lp lf body S M nx fun e S M nx => ifB (Nat.blt 1 e) false (resX res S M fun v => canV k v M K))
section
variable {P : Program} {E : Env} {ρ : Ren} {G : GS} {F : List Chunk} {M : T} {nx : Nat} {w : World} {N : Nat} {S : SL} {a : Act} {ops : Array Oper} {o : Oper} {pk : Nat}
theorem argsX_ok : ∀ {vs : List AV} {xs : List Value} {n : Nat} {S : SL} {K : SL → Bool}, denL E ρ vs = some xs → (∀ i x, xs[i]? = some x → a.tmps.getD (n + i) undef = x) → SR E ρ N S a → argsX vs n S K = true → ∃ S', SR E ρ N S' a ∧ K S' = true
 | [], xs, n, S, K, _, _, s, h => ⟨S, s, h⟩
 | v :: vs, xs, n, S, K, hd, hx, s, h => by
  obtain ⟨y, ys, h1, h2, rfl⟩ := denL_cons hd
  have h' : argsX vs (Nat.succ n) (.cons n v S) K = true := h
  refine argsX_ok h2 (fun i x hi => ?_) ⟨s.size, s.defs, fun t => ?_⟩ h'
  ·have := hx (i + 1) x (by simpa using hi)
   rw [show n + (i + 1) = Nat.succ n + i by omega] at this
   exact this
  ·by_cases e : n = t
   ·subst e
    rw [getS_self]
    exact .inr ⟨y, h1, hx 0 y rfl⟩
   ·rw [getS_ne _ _ e]
    exact s.at_ t
theorem slot_ok (s : SR E ρ N S a) {t : Nat} {K : AV → Bool} (h : nb (getS t S) K = true) : ∃ x, den E ρ (getS t S) = some x ∧ a.tmps.getD t undef = x ∧ K (getS t S) = true := by
 obtain ⟨h1, h2⟩ := nb_ok h
 obtain ⟨x, h3, h4⟩ := (s.at_ t).resolve_left h1
 exact ⟨x, h3, h4, h2⟩
theorem resX_ok (s : SR E ρ N S a) (h : Sim E ρ G F M nx w) {fn : Func} {r : XRes} {K : AV → Bool} (hc : chkRes P r fn.results.toList = true) (hk : resX r S M K = true) : ∃ v z, den E ρ v = some z ∧ K v = true ∧ (results fn a.tmps).run P w = .ok z w := by
 unfold chkRes at hc
 split at hc
 ·rename_i h1
  have hr := toL h1
  exact ⟨.tup [], .tuple #[], by simp [den, denL], hk, results_none hr _ _ _⟩
 ·rename_i t t' h1
  have hr := toL h1
  have := Nat.eq_of_beq_eq_true hc
  subst this
  obtain ⟨x, g1, g2, g3⟩ := slot_ok s (show nb (getS t S) K = true from hk)
  exact ⟨_, x, g1, g3, by rw [results_tmp hr, g2]⟩
 ·rename_i t u t' u' h1
  have hr := toL h1
  obtain ⟨c1, c2⟩ := and2 hc
  have c1 := Nat.eq_of_beq_eq_true c1
  have c2 := Nat.eq_of_beq_eq_true c2
  subst c1; subst c2
  obtain ⟨x, g1, g2, g3⟩ := slot_ok s (show nb (getS t S) (fun x => nb (getS u S) fun y => K (.tup [x, y])) = true from hk)
  obtain ⟨y, g4, g5, g6⟩ := slot_ok s (show nb (getS u S) (fun y => K (.tup [getS t S, y])) = true from g3)
  exact ⟨_, .tuple #[x, y], by simp only [den, denL, g1, g4], g6, by rw [results_tmp2 hr, g2, g5]⟩
 ·rename_i t agg n t' ty h1
  have hr := toL h1
  obtain ⟨hc, c3⟩ := and2 hc
  obtain ⟨c1, c2⟩ := and2 hc
  rw [decide_eq_true_eq] at c2 c3
  have c1 := Nat.eq_of_beq_eq_true c1
  subst c1
  obtain ⟨x, g1, g2, g3⟩ := slot_ok s (show nb (getS t S) (fun p => ldY agg n p M K) = true from hk)
  have fin : ∀ {u : AV} {z : Value}, den E ρ u = some z → K u = true → (Instr.loadAt ty x).run P w = .ok z w → ∃ v z, den E ρ v = some z ∧ K v = true ∧ (results fn a.tmps).run P w = .ok z w := by
   intro u z d1 d2 d3
   refine ⟨u, z, d1, d2, ?_⟩
   have e1 : a.tmps[t]?.getD undef = x := by simpa using g2
   cases x with
   | pointer p =>
    cases p with
    | some ad =>
     simp only [Instr.loadAt, Instr.sureAddr, Sem.run_bind, Sem.run_pure, Result.andThen_ok] at d3
     simp [results, hr, e1, asAddr, d3]
    | none => simp [Instr.loadAt, Instr.sureAddr] at d3
   | _ => simp [Instr.loadAt, Instr.sureAddr] at d3
  obtain ⟨u, z, d1, d2, d3⟩ := ldY_ok (P := P) h g1 g3 c2 c3
  exact fin d1 d2 d3
 ·rename_i t agg n v0 t' ty u' h1
  have hr := toL h1
  obtain ⟨hc, c4⟩ := and2 hc
  obtain ⟨hc, c3⟩ := and2 hc
  obtain ⟨c1, c2⟩ := and2 hc
  rw [decide_eq_true_eq] at c2 c3
  have c1 := Nat.eq_of_beq_eq_true c1
  subst c1
  have c4 := Nat.eq_of_beq_eq_true c4
  subst c4
  obtain ⟨x, g1, g2, g3⟩ := slot_ok s (show nb (getS t S) (fun p => ldY agg n p M fun v => nb (getS v0 S) fun y => K (.tup [v, y])) = true from hk)
  obtain ⟨u, z, d1, d2, d3⟩ := ldY_ok (P := P) h g1 g3 c2 c3
  obtain ⟨y, e1, e2, e3⟩ := slot_ok s d2
  refine ⟨_, .tuple #[z, y], by simp only [den, denL, d1, e1], e3, ?_⟩
  rw [results_cell_tmp hr, g2, e2]
  cases x with
  | pointer p =>
   cases p with
   | some ad =>
    simp only [Instr.loadAt, Instr.sureAddr, Sem.run_bind, Sem.run_pure, Result.andThen_ok] at d3
    simp [asAddr, d3]
   | none => simp [Instr.loadAt, Instr.sureAddr] at d3
  | _ => simp [Instr.loadAt, Instr.sureAddr] at d3
 ·cases hc
theorem renM_all : ∀ {ps l : List (Nat × Nat)} {M acc : T} {K : T → Bool}, renM ps M l acc K = true → ∀ p ∈ l, ∃ o, M.get p.1 = some o
 | ps, [], M, acc, K, h, p, hp => by simp at hp
 | ps, q :: l, M, acc, K, h, p, hp => by
  have h' : (atO (M.get q.1) fun o => atO (renO ps o) fun o' => T.set fuelT acc q.2 (some o') fun acc => renM ps M l acc K) = true := h
  obtain ⟨o, h1, h2⟩ := atO_ok h'
  obtain ⟨o', h3, h4⟩ := atO_ok h2
  obtain ⟨acc', h5, s1, s2⟩ := T.set_ok _ _ _ _ _ h4
  rcases List.mem_cons.1 hp with rfl | hp
  ·exact ⟨o, h1⟩
  ·exact renM_all h5 p hp
theorem renM_over : ∀ {ps l : List (Nat × Nat)} {M M1 acc : T} {K : T → Bool}, (∀ j o, acc.get j = some o → (∃ i o0, (i, j) ∈ ps ∧ M.get i = some o0 ∧ renO ps o0 = some o) ∨ M1.get j = some o) → (∀ p ∈ l, p ∈ ps) → renM ps M l acc K = true →
  ∃ M', K M' = true ∧ ∀ j o, M'.get j = some o → (∃ i o0, (i, j) ∈ ps ∧ M.get i = some o0 ∧ renO ps o0 = some o) ∨ M1.get j = some o
 | ps, [], M, M1, acc, K, ha, _, h => ⟨acc, h, ha⟩
 | ps, p :: l, M, M1, acc, K, ha, hl, h => by
  have h' : (atO (M.get p.1) fun o => atO (renO ps o) fun o' => T.set fuelT acc p.2 (some o') fun acc => renM ps M l acc K) = true := h
  obtain ⟨o, h1, h2⟩ := atO_ok h'
  obtain ⟨o', h3, h4⟩ := atO_ok h2
  obtain ⟨acc', h5, s1, s2⟩ := T.set_ok _ _ _ _ _ h4
  refine renM_over (fun j ob hj => ?_) (fun q hq => hl q (by simp [hq])) h5
  by_cases e : j = p.2
  ·subst e
   rw [s1] at hj
   cases hj
   exact .inl ⟨p.1, o, hl p (by simp), h1, h3⟩
  ·rw [s2 j e] at hj
   exact ha j ob hj
theorem delM_ok : ∀ {l : List (Nat × Nat)} {M : T} {K : T → Bool}, delM l M K = true → ∃ M', K M' = true ∧ (∀ j o, M'.get j = some o → M.get j = some o ∧ ∀ p ∈ l, p.1 ≠ j)
 | [], M, K, h => ⟨M, h, fun j o hj => ⟨hj, fun p hp => by simp at hp⟩⟩
 | p :: l, M, K, h => by
  have h' : (T.set fuelT M p.1 none fun M => delM l M K) = true := h
  obtain ⟨M1, h1, s1, s2⟩ := T.set_ok _ _ _ _ _ h'
  obtain ⟨M2, h2, h3⟩ := delM_ok h1
  refine ⟨M2, h2, fun j o hj => ?_⟩
  obtain ⟨q1, q2⟩ := h3 j o hj
  have hne : p.1 ≠ j := fun e => by rw [← e, s1] at q1; cases q1
  refine ⟨by rw [← s2 j (fun e => hne e.symm)]; exact q1, fun r hr => ?_⟩
  rcases List.mem_cons.1 hr with rfl | hr
  ·exact hne
  ·exact q2 r hr
theorem outB_ok {k nx n : Nat} {ps qs : List (Nat × Nat)} (h : outB k nx n ps qs = true) : ∀ q ∈ qs, q.1 < n ∧ ((q.1 < k ∧ (q.2, q.1) ∈ ps) ∨ (k ≤ q.1 ∧ q.2 = nx + q.1)) := fun q hq => by
 have := List.all_eq_true.1 h q hq
 simp only [Bool.and_eq_true, Bool.or_eq_true, Nat.blt_eq, Nat.ble_eq] at this
 obtain ⟨h1, h2⟩ := this
 refine ⟨h1, ?_⟩
 rcases h2 with ⟨h2, h3⟩ | ⟨h2, h3⟩
 ·obtain ⟨p, q1, q2⟩ := List.any_eq_true.1 h3
  simp only [Bool.and_eq_true] at q2
  have e1 := Nat.eq_of_beq_eq_true q2.1
  have e2 := Nat.eq_of_beq_eq_true q2.2
  have : p = (q.2, q.1) := by cases p; simp_all
  rw [this] at q1
  exact .inl ⟨h2, q1⟩
 ·exact .inr ⟨h2, Nat.eq_of_beq_eq_true h3⟩
theorem canV_ok (h : Sim E ρ G F M nx w) {k : Nat} {v : AV} {x : Value} {K : AV → T → Nat → Bool} (hd : den E ρ v = some x) (hk : canV k v M K = true) :
  ∃ v' M' n' ρ', Sim E ρ' G F M' n' w ∧ den E ρ' v' = some x ∧ K v' M' n' = true ∧ ∀ i e, i < k → ρ i = some e → ρ' i = some e := by
 unfold canV at hk
 rw [fP_eq] at hk
 generalize numd 0 (walkI M 200 (upTo k (idsA v)) []) = ps at hk
 obtain ⟨h1, hk⟩ := must_ok hk
 obtain ⟨h2, hk⟩ := must_ok hk
 rw [fN_eq] at hk
 obtain ⟨h3, hk⟩ := must_ok hk
 obtain ⟨M', h4, h5⟩ := renM_ok (ps := ps) (fun j o hj => by simp [T.get_leaf] at hj) (fun p hp => hp) hk
 obtain ⟨v', h6, h7⟩ := atO_ok h4
 exact ⟨v', M', _, renR ps ρ, h.ren h2 (belowB_ok h3) h5, renA_den h2 _ _ _ h6 hd, h7, fun i e q1 q2 => by rw [renR_at h2 (pinsB_ok h1 i q1)]; exact q2⟩
def NatE (P : Program) (f k : Nat) (sp : SpecE) : Prop := ∀ (us : List AV) (xs : List Value) (E : Env) (ρ : Ren) (G : GS) (F : List Chunk) (M : T) (nx : Nat) (w : World) (K : AV → T → Nat → Bool) (R : Ending → World → Prop), EOk E → Sim E ρ G F M nx w → denL E ρ us = some xs → sp us M nx K = true →
 (∀ v M' nx' E' ρ' w' z, K v M' nx' = true → EOk E' → MLe E.M E'.M → (∀ i e, i < k → ρ i = some e → ρ' i = some e) → Sim E' ρ' G F M' nx' w' → den E' ρ' v = some z → R (.returned z) w') → Calls P f xs.toArray w R
theorem natGo_ok {f k : Nat} {sp : SpecE} (hn : NatE P f k sp) {vs : List AV} {xs : List Value} {K : AV → T → Nat → Bool} {R : Ending → World → Prop} (hE : EOk E) (h : Sim E ρ G F M nx w) (hd : denL E ρ vs = some xs) (hk : natGo k sp vs M nx K = true)
  (hr : ∀ v M' nx' E' ρ' w' z, K v M' nx' = true → Ext E ρ E' ρ' → Sim E' ρ' G F M' nx' w' → den E' ρ' v = some z → R (.returned z) w') : Calls P f xs.toArray w R := by
 classical
 unfold natGo at hk
 rw [fP_eq] at hk
 generalize numd 0 (walkI M 200 (idsL vs) []) = ps at hk
 obtain ⟨h1, hk⟩ := must_ok hk
 rw [fN_eq] at hk
 obtain ⟨h2, hk⟩ := must_ok hk
 have h2 := belowB_ok h2
 obtain ⟨us, h3, hk⟩ := atO_ok hk
 have hall := renM_all hk
 obtain ⟨Ml, hsp, hMl⟩ := renM_ok (ps := ps) (fun j o hj => by simp [T.get_leaf] at hj) (fun p hp => hp) hk
 obtain ⟨c, hh, hob, hinj⟩ := h.ex
 let B : Nat × Obj → Bool := fun q => decide (∃ p ∈ ps, ∃ e o, ρ p.1 = some e ∧ e.b = q.1 ∧ M.get p.1 = some o ∧ hasB e o = true)
 have hB : ∀ q : Nat × Obj, B q = true ↔ ∃ p ∈ ps, ∃ e o, ρ p.1 = some e ∧ e.b = q.1 ∧ M.get p.1 = some o ∧ hasB e o = true := fun q => by simp only [B, decide_eq_true_eq]
 have hh1 : Holds { G with M := E.M } w (c.filter B :: c.filter (fun q => !B q) :: F) := hh.perm (by
  simp only [List.flatten_cons, ← List.append_assoc]
  exact (List.filter_append_perm B c).append_right _)
 have hs : Sim E (renR ps ρ) G (c.filter (fun q => !B q) :: F) Ml ps.length w := by
  refine ⟨⟨c.filter B, hh1, fun j o hj => ?_, fun j k e f o o' hj hk he hf hb1 hb2 hb => ?_⟩, h.mem, fun j hj => ?_⟩
  ·obtain ⟨i, o0, g1, g2, g3⟩ := hMl j o hj
   obtain ⟨e, a1, q⟩ := hob i o0 g2
   have hHB := renO_hasB (e := e) g3
   refine ⟨e, by rw [renR_at h1 g1]; exact a1, ?_⟩
   rcases q with ⟨q1, ob, q2, q3⟩ | ⟨q1, q2⟩
   ·exact .inl ⟨by rw [hHB.1]; exact q1, ob, List.mem_filter.2 ⟨q2, (hB _).2 ⟨(i, j), g1, e, o0, a1, rfl, g2, q1⟩⟩, renO_rel h1 g3 q3⟩
   ·exact .inr ⟨by rw [hHB.1]; exact q1, hHB.2 q2⟩
  ·obtain ⟨i, o0, g1, g2, g3⟩ := hMl j o hj
   obtain ⟨i', o1, f1, f2, f3⟩ := hMl k o' hk
   rw [renR_at h1 g1] at he
   rw [renR_at h1 f1] at hf
   rw [(renO_hasB (e := e) g3).1] at hb1
   rw [(renO_hasB (e := f) f3).1] at hb2
   have := hinj i i' e f o0 o1 g2 f2 he hf hb1 hb2 hb
   subst this
   exact news_inj h1 g1 f1
  ·unfold renR
   split
   ·rename_i p hp
    have q1 := List.mem_of_find?_eq_some hp
    have q2 := List.find?_some hp
    have := Nat.eq_of_beq_eq_true q2
    have := h2 p q1
    omega
   ·rfl
 refine hn us xs E (renR ps ρ) G _ Ml _ w _ R hE hs (renL_den h1 _ _ _ h3 hd) hsp fun v M' n' E' ρ' w' z kv hE' hm hpin hs' hz => ?_
 rw [fP_eq] at kv
 generalize outQ k nx ps (walkI M' 200 (upTo k (idsA v)) []) = qs at kv
 obtain ⟨g1, kv⟩ := must_ok kv
 obtain ⟨g2, kv⟩ := must_ok kv
 have g2 := outB_ok g2
 obtain ⟨v', g3, kv⟩ := atO_ok kv
 obtain ⟨M1, kv, hM1⟩ := delM_ok kv
 obtain ⟨M2, kv, hM2⟩ := renM_over (M1 := M1) (fun j o hj => .inr hj) (fun p hp => hp) kv
 rw [fN_eq] at kv
 obtain ⟨c', hh', hob', hinj'⟩ := hs'.ex
 let ρo : Ren := fun i => if i < nx then ρ i else ρ' (i - nx)
 have lt : ∀ i e, ρ i = some e → i < nx := fun i e q => by
  by_cases q1 : i < nx
  ·exact q1
  ·rw [h.fresh i (by omega)] at q; cases q
 have hle : ρ.Le ρo := fun i e q => by simp only [ρo, if_pos (lt i e q)]; exact q
 have hq : ∀ j i, (j, i) ∈ qs → ∀ e, ρ' j = some e → ρo i = some e := fun j i hji e he => by
  obtain ⟨q1, ⟨q2, q3⟩ | ⟨q2, q3⟩⟩ := g2 _ hji
  ·obtain ⟨o, ho⟩ := hall _ q3
   obtain ⟨e0, a1, _⟩ := hob _ _ ho
   have := hpin j e0 q2 (by rw [renR_at h1 q3]; exact a1)
   rw [this] at he
   cases he
   exact hle _ _ a1
  ·simp only at q2 q3
   have : ¬ i < nx := by omega
   simp only [ρo, if_neg this]
   rw [show i - nx = j by omega]; exact he
 have hrle : (renR qs ρ').Le ρo := fun i e q => by
  unfold renR at q
  split at q
  ·rename_i p hp
   have q1 := List.mem_of_find?_eq_some hp
   have q2 := List.find?_some hp
   have q2 := Nat.eq_of_beq_eq_true q2
   subst q2
   exact hq p.1 p.2 q1 e q
  ·cases q
 have hEE : EEq ρ E ⟨E.at_, E'.M⟩ := ⟨fun _ _ _ => rfl, hm⟩
 refine hr v' M2 (nx + n') ⟨E.at_, E'.M⟩ ρo w' z kv ⟨hEE, hle, hE⟩ ⟨⟨c' ++ c.filter (fun q => !B q), ?_, fun id o hid => ?_, fun i j e f o o' hi hj he hf hb1 hb2 hb => ?_⟩, hs'.mem, fun i hi => ?_⟩ (den_mono hrle _ _ (renA_den g1 _ _ _ g3 hz))
 ·exact hh'.perm (by simp)
 ·rcases hM2 id o hid with ⟨j, o0, p1, p2, p3⟩ | p1
  ·obtain ⟨e, a1, q⟩ := hob' j o0 p2
   have hHB := renO_hasB (e := e) p3
   refine ⟨e, hq j id p1 e a1, ?_⟩
   rcases q with ⟨q1, ob, q2, q3⟩ | ⟨q1, q2⟩
   ·exact .inl ⟨by rw [hHB.1]; exact q1, ob, List.mem_append.2 (.inl q2), (renO_rel (t2 := E.at_) g1 p3 q3).mono hrle⟩
   ·exact .inr ⟨by rw [hHB.1]; exact q1, hHB.2 q2⟩
  ·obtain ⟨q1, q2⟩ := hM1 id o p1
   obtain ⟨e, a1, q⟩ := hob id o q1
   refine ⟨e, hle _ _ a1, ?_⟩
   rcases q with ⟨r1, ob, r2, r3⟩ | r
   ·refine .inl ⟨r1, ob, List.mem_append.2 (.inr (List.mem_filter.2 ⟨r2, ?_⟩)), (r3.env hEE).mono hle⟩
    have : ¬ B (e.b, ob) = true := fun hb => by
     obtain ⟨p, s1, e2, o2, s2, s3, s4, s5⟩ := (hB _).1 hb
     exact q2 p s1 (hinj p.1 id e2 e o2 o s4 q1 s2 a1 s5 r1 s3)
    simpa using this
   ·exact .inr r
 ·have nd := hh'.nodup
  simp only [List.flatten_cons, List.map_append] at nd
  have ap : ∀ b, b ∈ c'.map (·.1) → b ∈ (c.filter fun q => !B q).map (·.1) → False := fun b b1 b2 =>
   (List.nodup_append.1 nd).2.2 b b1 b (List.mem_append.2 (.inl b2)) rfl
  have blkN : ∀ id o e, (∃ j o0, (j, id) ∈ qs ∧ M'.get j = some o0 ∧ renO qs o0 = some o) → ρo id = some e → hasB e o = true → e.b ∈ c'.map (·.1) := by
   rintro id o e ⟨j, o0, p1, p2, p3⟩ he hb
   obtain ⟨e2, a1, q⟩ := hob' j o0 p2
   have := hq j id p1 e2 a1
   rw [this] at he; cases he
   rcases q with ⟨q1, ob, q2, q3⟩ | ⟨q1, q2⟩
   ·exact List.mem_map.2 ⟨_, q2, rfl⟩
   ·rw [(renO_hasB (e := e) p3).1, q1] at hb; cases hb
  have blkO : ∀ id o e, M1.get id = some o → ρo id = some e → hasB e o = true → e.b ∈ (c.filter fun q => !B q).map (·.1) := by
   intro id o e p1 he hb
   obtain ⟨q1, q2⟩ := hM1 id o p1
   obtain ⟨e2, a1, q⟩ := hob id o q1
   rw [hle _ _ a1] at he; cases he
   rcases q with ⟨r1, ob, r2, r3⟩ | ⟨r1, r2⟩
   ·refine List.mem_map.2 ⟨_, List.mem_filter.2 ⟨r2, ?_⟩, rfl⟩
    have : ¬ B (e.b, ob) = true := fun hb => by
     obtain ⟨p, s1, e3, o2, s2, s3, s4, s5⟩ := (hB _).1 hb
     exact q2 p s1 (hinj p.1 id e3 e o2 o s4 q1 s2 a1 s5 r1 s3)
    simpa using this
   ·rw [r1] at hb; cases hb
  rcases hM2 i o hi with m1 | m1 <;> rcases hM2 j o' hj with m2 | m2
  ·obtain ⟨j1, o1, p1, p2, p3⟩ := m1
   obtain ⟨j2, o2, r1, r2, r3⟩ := m2
   obtain ⟨e1, a1, _⟩ := hob' j1 o1 p2
   obtain ⟨e2, a2, _⟩ := hob' j2 o2 r2
   have x1 := hq _ _ p1 _ a1
   have x2 := hq _ _ r1 _ a2
   rw [x1] at he; cases he
   rw [x2] at hf; cases hf
   rw [(renO_hasB (e := e) p3).1] at hb1
   rw [(renO_hasB (e := f) r3).1] at hb2
   have := hinj' j1 j2 e f o1 o2 p2 r2 a1 a2 hb1 hb2 hb
   subst this
   exact news_inj g1 p1 r1
  ·exact (ap _ (blkN i o e m1 he hb1) (by rw [hb]; exact blkO j o' f m2 hf hb2)).elim
  ·exact (ap _ (blkN j o' f m2 hf hb2) (by rw [← hb]; exact blkO i o e m1 he hb1)).elim
  ·obtain ⟨q1, _⟩ := hM1 i o m1
   obtain ⟨q2, _⟩ := hM1 j o' m2
   obtain ⟨e1, a1, _⟩ := hob i o q1
   obtain ⟨e2, a2, _⟩ := hob j o' q2
   rw [hle _ _ a1] at he; cases he
   rw [hle _ _ a2] at hf; cases hf
   exact hinj i j e f o o' q1 q2 a1 a2 hb1 hb2 hb
 ·have : ¬ i < nx := by omega
  simp only [ρo, if_neg this]
  exact hs'.fresh _ (by omega)
theorem run_fun (hm : P.follows .mixedOrders = true) {cf : CallF} (hcf : CallOk P cf) {lp : LpF} {lf : Nat} {fl : Bool} {pk : Nat} {f N : Nat} {res : XRes} {body : XC} (hf : chkF P f (.mk N res body) = true) (hfl : fl = true → plain body = true) (hkp : keepB pk body = true) (hlp : ∀ b j x, (b, j, x) ∈ lpsOf body → LpOk P N pk lp b j x)
  {vs : List AV} {xs : List Value} (hE : EOk E) (h : Sim E ρ G F M nx w) (hd : denL E ρ vs = some xs) {K : AV → T → Nat → Bool} {R : Ending → World → Prop}
  (h2 : must (Nat.ble (lenL vs) N) (argsX vs 0 .nil fun S => codeX cf lp lf body S M nx fun e S M nx => ifB (Nat.blt 1 e) false (resX res S M fun v => K v M nx)) = true)
  (hr : ∀ v M' nx' E' ρ' w' z, K v M' nx' = true → Rel fl pk E ρ E' ρ' → Sim E' ρ' G F M' nx' w' → den E' ρ' v = some z → R (.returned z) w') : Calls P f xs.toArray w R := by
 unfold chkF at hf
 split at hf
 case h_2 => cases hf
 rename_i N' res' body' fn hx hfn
 cases hx
 split at hf
 case h_2 => cases hf
 rename_i c hb
 obtain ⟨hf, c3⟩ := and2 hf
 obtain ⟨c1, c2⟩ := and2 hf
 have c1 := Nat.eq_of_beq_eq_true c1
 obtain ⟨h3, h4⟩ := must_ok h2
 rw [Nat.ble_eq, lenL_eq] at h3
 have hlen := denL_len hd
 refine calls_of_wp hfn hb ?_
 have hsz : (xs.toArray ++ Array.replicate (fn.ntmps - xs.toArray.size) undef).size = N := by simp; omega
 obtain ⟨S, s, h5⟩ := argsX_ok (a := { tmps := xs.toArray ++ Array.replicate (fn.ntmps - xs.toArray.size) undef, defers := [] }) (N := N) hd (fun i x hi => by
  have hlt := (List.getElem?_eq_some_iff.1 hi).1
  have hv := (List.getElem?_eq_some_iff.1 hi).2
  simp only [Nat.zero_add, Array.getD, hsz]
  rw [dif_pos (by omega)]
  simp [Array.getElem_append, hlt, hv]) (SR.nil hsz rfl) h4
 refine codeX_ok hm hcf body c hE hfl hkp hlp c3 s h h5 fun e S' M' nx' E' ρ' a' w' k1 k2 k3 k4 => ?_
 rcases ifB_ok k1 with ⟨_, g1⟩ | ⟨q, g1⟩
 ·cases g1
 ·obtain ⟨v, z, r1, r2, r3⟩ := resX_ok k3 k4 c2 g1
  have hR := hr v M' nx' E' ρ' w' z r2 k2 k4 r1
  match e, q with
  | 0, _ => exact ⟨k3.defs, z, r3, hR⟩
  | 1, _ => exact ⟨k3.defs, z, r3, hR⟩
  | n + 2, q =>
   have : Nat.blt 1 (n + 2) = true := by rw [Nat.blt_eq]; omega
   rw [this] at q; cases q
theorem callX_ok (hm : P.follows .mixedOrders = true) {tab : Nat → Option XF} {nat : Nat → List AV → Option ES} {lp : LpF} {lf : Nat} (htab : ∀ f xf, tab f = some xf → chkF P f xf = true ∧ plain (bodyOf xf) = true) (hnat : ∀ f vs k sp, nat f vs = some (.mk k sp) → NatE P f k sp) : ∀ d, CallOk P (callX tab nat lp lf d)
 | 0 => by
  intro f vs M nx K E ρ G F w xs R hE h hd hk hr
  have hk' : (Option.casesOn (nat f vs) false fun es => ES.casesOn es fun k sp => natGo k sp vs M nx K : Bool) = true := hk
  rcases e : nat f vs with _ | ⟨k, sp⟩
  ·rw [e] at hk'; cases hk'
  ·rw [e] at hk'
   exact natGo_ok (hnat f vs k sp e) hE h hd hk' hr
 | d + 1 => by
  intro f vs M nx K E ρ G F w xs R hE h hd hk hr
  have hk' : (Option.casesOn (nat f vs) (atO (tab f) fun xf => XF.casesOn xf fun N res body =>
   must (Nat.ble (lenL vs) N) (argsX vs 0 .nil fun S => codeX (callX tab nat lp lf d) lp lf body S M nx fun e S M nx => ifB (Nat.blt 1 e) false (resX res S M fun v => K v M nx))) fun es => ES.casesOn es fun k sp => natGo k sp vs M nx K : Bool) = true := hk
  rcases e : nat f vs with _ | ⟨k, sp⟩
  ·rw [e] at hk'
   obtain ⟨xf, h1, h2⟩ := atO_ok hk'
   obtain ⟨hf, hp⟩ := htab f xf h1
   obtain ⟨N, res, body⟩ := xf
   have hno : ∀ {x : XC}, plain x = true → lpsOf x = [] := by
    intro x
    induction x with
    | seq x y ihx ihy => intro q; obtain ⟨q1, q2⟩ := and2 (show (plain x && plain y) = true from q); simp [lpsOf, ihx q1, ihy q2]
    | cond p x y ihx ihy => intro q; obtain ⟨q1, q2⟩ := and2 (show (plain x && plain y) = true from q); simp [lpsOf, ihx q1, ihy q2]
    | block k x ih => exact fun q => ih q
    | loop l x ih => exact fun q => ih q
    | inv => intro q; cases q
    | aft => intro q; cases q
    | pre => intro q; cases q
    | spc => intro q; cases q
    | _ => intro _; rfl
   have hk0 : ∀ {x : XC}, plain x = true → keepB 0 x = true := by
    intro x
    induction x with
    | seq x y ihx ihy => intro q; obtain ⟨q1, q2⟩ := and2 (show (plain x && plain y) = true from q); simp [keepB, ihx q1, ihy q2]
    | cond p x y ihx ihy => intro q; obtain ⟨q1, q2⟩ := and2 (show (plain x && plain y) = true from q); simp [keepB, ihx q1, ihy q2]
    | block k x ih => exact fun q => ih q
    | loop l x ih => exact fun q => ih q
    | inv => intro q; cases q
    | aft => intro q; cases q
    | pre => intro q; cases q
    | spc => intro q; cases q
    | _ => intro _; rfl
   exact run_fun (fl := true) (pk := 0) hm (callX_ok hm htab hnat d) hf (fun _ => hp) (hk0 hp) (fun b j x q => by rw [hno (x := body) hp] at q; cases q) hE h hd h2 fun v M' nx' E' ρ' w' z q1 q2 => hr v M' nx' E' ρ' w' z q1 (q2.ext rfl)
  ·rw [e] at hk'
   exact natGo_ok (hnat f vs k sp e) hE h hd hk' hr
theorem natE_of (hm : P.follows .mixedOrders = true) {cf : CallF} (hcf : CallOk P cf) {lp : LpF} {lf f k : Nat} {xf : XF} {sp : SpecE} (hf : chkF P f xf = true) (hkp : keepB k (bodyOf xf) = true) (hlp : ∀ b j x, (b, j, x) ∈ lpsOf (bodyOf xf) → LpOk P (nOf xf) k lp b j x) (hrun : ∀ us M nx K, sp us M nx K = true → funE k cf lp lf xf us M nx K = true) : NatE P f k sp := by
 intro us xs E ρ G F M nx w K R hE hs hd hk hr
 obtain ⟨N, res, body⟩ := xf
 refine run_fun (fl := false) (pk := k) (K := fun v M _ => canV k v M K) (G := G) hm hcf hf (fun q => by cases q) hkp hlp hE hs hd (hrun us M nx K hk) fun v M' nx' E' ρ' w' z q1 q2 q3 q4 => ?_
 obtain ⟨v2, M2, n2, ρ2, f1, f2, f3, f4⟩ := canV_ok q3 q4 q1
 exact hr v2 M2 n2 E' ρ2 w' z f3 q2.one q2.mem (fun i e i1 i2 => f4 i e i1 (q2.pin i e i1 i2)) f1 f2
theorem lp_of (hm : P.follows .mixedOrders = true) {cf : CallF} (hcf : CallOk P cf) {lp : LpF} {lf j : Nat} {x : XC} (hkp : keepB pk x = true) {α : Type _} (I : α → SL × T × Nat) (μ : α → Nat) (spec : α → KC → Bool) (hlp : ∀ b j' x', (b, j', x') ∈ lpsOf x → LpOk P N pk lp b j' x')
  (hj : ∀ S M nx K, lp j S M nx K = true → ∃ p, (S, M, nx) = I p ∧ spec p K = true)
  (hbody : ∀ p K, spec p K = true → codeX cf lp lf x (I p).1 (I p).2.1 (I p).2.2 (fun e S M nx => Nat.casesOn e (exB fun p' => must (prB ((S, M, nx) = I p' ∧ μ p' < μ p)) (spec p' K)) (fun e' => K (Nat.succ e') S M nx)) = true) : LpOk P N pk lp true j x := by
 intro c S M nx E ρ G F a w K Q hE hc s h hk hq
 obtain ⟨p, hp, hs⟩ := hj S M nx K hk
 have key : ∀ (n : Nat) (p : α), μ p < n → ∀ {S : SL} {M : T} {nx : Nat} {E : Env} {ρ : Ren} {a : Act} {w : World}, (S, M, nx) = I p → spec p K = true → EOk E → SR E ρ N S a → Sim E ρ G F M nx w →
   (∀ e S' M' nx' E' ρ' a' w', K e S' M' nx' = true → Rel false pk E ρ E' ρ' → SR E' ρ' N S' a' → Sim E' ρ' G F M' nx' w' → Q (exOf e) a' w') → Code.rounds P c Q n a w := by
  intro n
  induction n with
  | zero => intro p hn; omega
  | succ n ih =>
   intro p hn S M nx E ρ a w hI hs hE s h hq
   have hb := hbody p K hs
   rw [← hI] at hb
   refine codeX_ok (fl := false) hm hcf x c hE (fun q => by cases q) hkp hlp hc s h hb fun e S' M' nx' E' ρ' a' w' k1 k2 k3 k4 => ?_
   match e, k1 with
   | 0, k1 =>
    obtain ⟨p', k5⟩ := exB_ok k1
    obtain ⟨⟨k6, k7⟩, k8⟩ := mustP_ok k5
    exact ih p' (by omega) k6 k8 k2.one k3 k4 fun e S2 M2 nx2 E2 ρ2 a2 w2 j1 j2 => hq e _ _ _ _ _ _ _ j1 (k2.trans j2)
   | 1, k1 => exact hq 1 _ _ _ _ _ _ _ k1 k2 k3 k4
   | m + 2, k1 => exact hq (m + 2) _ _ _ _ _ _ _ k1 k2 k3 k4
 exact wp_loop_rounds (μ p + 1) (key (μ p + 1) p (Nat.lt_succ_self _) hp hs hE s h hq)
end
noncomputable def shp (v : AV) : Nat := AV.casesOn v 0 (fun _ _ => 1) (fun _ => 2) (fun _ => 3) (fun _ _ => 4) (fun _ _ _ _ => 5) (fun _ => 6) 7 8 9 10 11 (fun _ _ => 12) (fun _ _ => 13) (fun _ => 14) (fun _ => 15) (fun _ => 16) (fun _ => 17) (fun s => SY.casesOn s (fun _ _ => 20) (fun _ => 21) (fun _ => 22) (fun _ _ _ _ _ => 23) (fun _ _ _ => 24) (fun _ _ => 25) (fun _ _ _ _ => 26) (fun _ _ _ _ => 27) (fun _ _ _ => 28))
noncomputable def shpN (vs : List AV) (n : Nat) : Nat := Option.casesOn (nth vs n) 0 shp
noncomputable def hasL (vs : List AV) (l : List (Nat × Nat)) : Bool := List.rec true (fun p _ ih => Bool.rec false ih (Nat.beq (shpN vs p.1) p.2)) l
noncomputable def hasS (f g : Nat) (vs : List AV) (l : List (Nat × Nat)) : Bool := Bool.rec false (hasL vs l) (Nat.beq f g)
theorem nat_step {P : Program} {f g k k0 : Nat} {vs : List AV} {sp sp0 : SpecE} {rest : Option ES} {l : List (Nat × Nat)} (h0 : NatE P g k0 sp0) (hr : rest = some (.mk k sp) → NatE P f k sp) (h : (Bool.rec rest (some (ES.mk k0 sp0)) (hasS f g vs l) : Option ES) = some (.mk k sp)) : NatE P f k sp := by
 cases hb : hasS f g vs l with
 | false => rw [hb] at h; exact hr h
 | true =>
  rw [hb] at h
  cases h
  unfold hasS at hb
  cases he : Nat.beq f g with
  | false => rw [he] at hb; cases hb
  | true => rw [Nat.eq_of_beq_eq_true he]; exact h0
theorem mem_step {P : Program} {N k : Nat} {lp : LpF} {b b0 : Bool} {j j0 : Nat} {x x0 : XC} {l : List (Bool × Nat × XC)} (h0 : LpOk P N k lp b0 j0 x0) (hr : (b, j, x) ∈ l → LpOk P N k lp b j x) (h : (b, j, x) ∈ (b0, j0, x0) :: l) : LpOk P N k lp b j x := by
 rcases List.mem_cons.1 h with e | h
 ·injection e with e1 e2
  injection e2 with e3 e4
  subst e1; subst e3; subst e4
  exact h0
 ·exact hr h
theorem ifB_use {p : Prop} {x y : Bool} (hp : p) (h : ifB (prB p) x y = true) : x = true := by
 rcases ifP_ok h with ⟨_, h⟩ | ⟨q, _⟩
 ·exact h
 ·exact absurd hp q
end Go.Sy
namespace Go.Eng
open Go Go.RowKit
section
variable {H : Type} {enc : TypeId × Value → H} {P : Program} {w : World} {base : Nat} {spare : Nat → Bool} {held : Bool}
theorem weightsAll_mem {e : TypeId} {d : DataW H} : ∀ {ds : List (DataW H)}, d ∈ ds → ∀ n ∈ d.weights P e, n ∈ DataW.weightsAll P e ds
 | a :: r, h, n, hn => by
  simp only [DataW.weightsAll, List.mem_append]
  rcases List.mem_cons.1 h with rfl | h
  ·exact Or.inl hn
  ·exact Or.inr (weightsAll_mem h n hn)
theorem parts_wtrod {n m : Nat} {cs : List Value} {S : List Nat} (ih : ∀ t ts, Leafs P n t = some ts → ∀ cs x, DataW.trod enc P w base spare held m t cs = some x → (∀ z ∈ x.1.weights P t, z ∈ S) → ∀ (j : Nat) (u : TypeId) (c : Value), ts[j]? = some u → cs[j]? = some c → ∃ k y, DataW.trod enc P w base spare held k u [c] = some y ∧ ∀ z ∈ y.1.weights P u, z ∈ S) :
  ∀ (l : List (TypeId × Nat)) (off : Nat) (ts : List TypeId), partsW P (Leafs P n) l off = some ts → (∀ p ∈ l, ∃ x, DataW.trod enc P w base spare held m p.1 ((cs.drop p.2).take (P.cellsOf p.1)) = some x ∧ ∀ z ∈ x.1.weights P p.1, z ∈ S) →
   ∀ (j : Nat) (u : TypeId) (c : Value), ts[j]? = some u → cs[off + j]? = some c → ∃ k y, DataW.trod enc P w base spare held k u [c] = some y ∧ ∀ z ∈ y.1.weights P u, z ∈ S
 | [], off, ts, h, _, j, u, c, hu, _ => by
  simp only [partsW, Option.some.injEq] at h
  subst h; simp at hu
 | (t, o) :: r, off, ts, h, hall, j, u, c, hu, hc => by
  simp only [partsW] at h
  cases ho : Nat.beq o off with
  | false => simp [ho] at h
  | true =>
   have ho := Nat.eq_of_beq_eq_true ho
   subst ho
   rcases hL : Leafs P n t with _ | a
   ·simp [hL] at h
   ·cases hl : Nat.beq a.length (P.cellsOf t) with
    | false => simp [hL, hl] at h
    | true =>
     rcases hr : partsW P (Leafs P n) r (o + a.length) with _ | b
     ·simp [hL, hl, hr] at h
     ·simp only [Nat.beq_refl, cond_true, hL, Option.bind_some, hl, hr, Option.map_some, Option.some.injEq] at h
      have hl := Nat.eq_of_beq_eq_true hl
      subst h
      rcases Nat.lt_or_ge j a.length with hj | hj
      ·rw [List.getElem?_append_left hj] at hu
       obtain ⟨x, hx, hz⟩ := hall (t, o) (by simp)
       refine ih t a hL _ x hx hz j u c hu ?_
       rw [List.getElem?_take_of_lt (by rw [← hl]; exact hj), List.getElem?_drop]
       exact hc
      ·rw [List.getElem?_append_right hj] at hu
       refine parts_wtrod ih r (o + a.length) b hr (fun p hp => hall p (by simp [hp])) (j - a.length) u c hu ?_
       rw [show o + a.length + (j - a.length) = o + j by omega]
       exact hc
theorem leafs_wtrod {S : List Nat} : ∀ (n : Nat) (t : TypeId) (ts : List TypeId), Leafs P n t = some ts → ∀ (m : Nat) (cs : List Value) x, DataW.trod enc P w base spare held m t cs = some x → (∀ z ∈ x.1.weights P t, z ∈ S) →
  ∀ (j : Nat) (u : TypeId) (c : Value), ts[j]? = some u → cs[j]? = some c → ∃ k y, DataW.trod enc P w base spare held k u [c] = some y ∧ ∀ z ∈ y.1.weights P u, z ∈ S := by
 intro n
 induction n with
 | zero => intro t ts h; simp [Leafs] at h
 | succ n ih =>
  intro t ts h m cs x hx hS
  have h0 := h
  unfold Leafs at h
  split at h
  ·rename_i fs hu
   obtain ⟨ts', hp, hb⟩ := Option.bind_eq_some_iff.1 h
   cases hl : Nat.beq ts'.length (P.cellsOf t) with
   | false => simp [hl] at hb
   | true =>
    simp only [hl, cond_true, Option.some.injEq] at hb
    subst hb
    have hl := Nat.eq_of_beq_eq_true hl
    cases m with
    | zero => simp [DataW.trod] at hx
    | succ m =>
     simp only [DataW.trod, hu] at hx
     split at hx
     ·rename_i hlen
      obtain ⟨xs, hm, rfl⟩ := Option.map_eq_some_iff.1 hx
      refine fun j u c hju hc => parts_wtrod (cs := cs) (n := n) (m := m) (S := S) (fun t ts h cs x hx => ih t ts h m cs x hx) _ 0 _ hp (fun p hp => ?_) j u c hju (by simpa using hc)
      obtain ⟨f, hf, rfl⟩ := List.mem_map.1 hp
      obtain ⟨i, hi⟩ := List.mem_iff_getElem?.1 hf
      obtain ⟨b, h1, hb⟩ := Lib.mapM_at hm i f hi
      refine ⟨b, hb, fun z hz => hS z ?_⟩
      simp only [DataW.weights, hu]
      exact DataW.weights_mem_each (j := i) (t := f.type) (d := b.1) (by simp [hi]) (by simp [h1]) z hz
     ·cases hx
  ·rename_i k e hu
   obtain ⟨ts', hp, hb⟩ := Option.bind_eq_some_iff.1 h
   cases hl : Nat.beq ts'.length (P.cellsOf t) with
   | false => simp [hl] at hb
   | true =>
    simp only [hl, cond_true, Option.some.injEq] at hb
    subst hb
    have hl := Nat.eq_of_beq_eq_true hl
    cases m with
    | zero => simp [DataW.trod] at hx
    | succ m =>
     simp only [DataW.trod, hu] at hx
     split at hx
     ·rename_i hlen
      obtain ⟨xs, hm, rfl⟩ := Option.map_eq_some_iff.1 hx
      refine fun j u c hju hc => parts_wtrod (cs := cs) (n := n) (m := m) (S := S) (fun t ts h cs x hx => ih t ts h m cs x hx) _ 0 _ hp (fun p hp => ?_) j u c hju (by simpa using hc)
      obtain ⟨i, hi, rfl⟩ := List.mem_map.1 hp
      obtain ⟨q, hq⟩ := List.mem_iff_getElem?.1 hi
      have : i = q := by
       obtain ⟨h1, h2⟩ := List.getElem?_eq_some_iff.1 hq
       simpa using h2.symm
      subst this
      obtain ⟨b, h1, hb⟩ := Lib.mapM_at hm i i hq
      refine ⟨b, hb, fun z hz => hS z ?_⟩
      simp only [DataW.weights, hu]
      exact weightsAll_mem (List.mem_map.2 ⟨b, List.mem_of_getElem? h1, rfl⟩) z hz
     ·cases hx
  ·rename_i d hns hna hu
   simp only [Option.some.injEq] at h
   subst h
   intro j u c hju hc
   have h1 := (leafs_trod (n + 1) t _ h0 m cs x hx).1
   obtain ⟨c0, rfl⟩ := List.length_eq_one_iff.1 h1
   have hj : j = 0 := by
    rcases j with _ | j
    ·rfl
    ·simp at hju
   subst hj
   simp only [List.getElem?_cons_zero, Option.some.injEq] at hju hc
   subst hju; subst hc
   exact ⟨m, x, hx, hS⟩
  ·cases h
theorem slice_weight {t e : TypeId} {fuel : Nat} {a : Option Addr} {len cap : Nat} {x : DataW H × List MemPlace} (ht : P.underlying t = some (.slice e)) (h : DataW.trod enc P w base spare held fuel t [.slice a len cap] = some x) :
  len = 0 ∨ ∃ k, len ≤ k ∧ k * P.bytesOf e ∈ x.1.weights P t := by
 rcases Go.Deep.open_slice ht h with ⟨h0, _⟩ | ⟨a, len', cap, m, n, D, Pl, h0, _, hl, hm, rfl, rfl, _⟩
 ·simp at h0; exact Or.inl h0.2.1
 ·simp at h0
  obtain ⟨_, rfl, _⟩ := h0
  exact Or.inr ⟨_, Nat.le_add_right _ _, by simp only [DataW.weights, ht, List.length_map, List.length_range]; exact List.mem_cons_self⟩
end
end Go.Eng
namespace Go.Proofs.Tryz
open Go Go.RowKit Go.Eng Go.Sy
set_option maxRecDepth 100000
def p_ (i d : Nat) (x : XO) : XSt := .p i (some d) none x
def pg_ (i d t : Nat) (b : Bool) (x : XO) : XSt := .p i (some d) (some (t, b)) x
def r_ (i d : Nat) (x : XO) : XSt := .r i (some d) none x
def rg_ (i d t : Nat) (b : Bool) (x : XO) : XSt := .r i (some d) (some (t, b)) x
def e_ (i d : Nat) (x : XO) : XSt := .e i (some d) none x
def e0_ (i : Nat) (x : XO) : XSt := .e i none none x
def c_ (i d f : Nat) (xs : List XP) : XSt := .c i (some d) none f xs
def cg_ (i d t : Nat) (b : Bool) (f : Nat) (xs : List XP) : XSt := .c i (some d) (some (t, b)) f xs
def a_ (i d : Nat) (x : XO) : XSt := .a i d none x
def ag_ (i d t : Nat) (b : Bool) (x : XO) : XSt := .a i d (some (t, b)) x
def m_ (n : Nat) : XO := .mv (.t n)
def n_ (n : Nat) : XO := .nck (.t n)
def f_ (k n : Nat) : XO := .fa k (.t n)
def l_ (n : Nat) : XO := .ld false 1 (.t n)
def k_ (n : Nat) : XO := .len 1 (.t n)
def i_ (n : Nat) : XP := .c (.int 0 (.ofNat n))
def o_ (n : Nat) : AV := .int 0 (.ofNat n)
def g_ (n : Nat) (l : List XSt) : XC := .reg false n (.leaf l)
def h_ (n : Nat) (l : List XSt) : XC := .reg true n (.leaf l)
def tz_Good (f : Nat) (x : XF) : Prop := chkF Tryz.prog f x = true ∧ plain (bodyOf x) = true
def tz13 : XF := .mk 19 (.one 2) (.seq (g_ 1 [p_ 0 2 (.mv (i_ 0))]) (.seq (.block 2 (.seq (g_ 3 [p_ 0 4 (m_ 0), c_ 1 5 39 [.t 4], p_ 2 3 (m_ 5)]) (.cond (.t 3) (.seq (g_ 1 [p_ 0 2 (.mv (i_ 0))]) .ret) (.seq (g_ 3 [p_ 0 7 (m_ 0), c_ 1 8 20 [.t 7], p_ 2 6 (m_ 8)]) (.cond (.t 6) (.seq (g_ 7 [p_ 0 9 (m_ 0), p_ 1 10 (n_ 9), p_ 2 11 (f_ 0 10), p_ 3 12 (f_ 3 11), r_ 4 13 (l_ 12), c_ 5 14 40 [.t 13], p_ 6 2 (m_ 14)]) .ret) .skip))))) (.seq (g_ 5 [p_ 0 15 (m_ 0), p_ 1 16 (n_ 15), p_ 2 17 (f_ 20 16), r_ 3 18 (l_ 17), p_ 4 2 (m_ 18)]) .ret)))
theorem tz13_g : tz_Good 13 tz13 := ⟨by kernel_rfl, by kernel_rfl⟩
def tz14 : XF := .mk 20 (.one 2) (.seq (g_ 1 [p_ 0 2 (.mv (.c .nilS))]) (.seq (.block 2 (.seq (g_ 3 [p_ 0 4 (m_ 0), c_ 1 5 39 [.t 4], p_ 2 3 (m_ 5)]) (.cond (.t 3) (.seq (g_ 1 [p_ 0 2 (.mv (.c .nilS))]) .ret) (.seq (g_ 3 [p_ 0 7 (m_ 0), c_ 1 8 20 [.t 7], p_ 2 6 (m_ 8)]) (.cond (.t 6) (.seq (g_ 7 [p_ 0 9 (m_ 0), p_ 1 10 (n_ 9), p_ 2 11 (f_ 0 10), p_ 3 12 (f_ 3 11), r_ 4 13 (l_ 12), c_ 5 14 41 [.t 13], p_ 6 2 (m_ 14)]) .ret) .skip))))) (.seq (g_ 6 [p_ 0 15 (m_ 0), p_ 1 16 (n_ 15), p_ 2 17 (f_ 18 16), r_ 3 18 (l_ 17), c_ 4 19 42 [.t 18], p_ 5 2 (m_ 19)]) .ret)))
theorem tz14_g : tz_Good 14 tz14 := ⟨by kernel_rfl, by kernel_rfl⟩
def tz17 : XF := .mk 13 (.cell 2 true 3) (.seq (g_ 1 [e_ 0 2 (.al 45 [(.int 1 (.ofNat 0)), (.int 3 (.ofNat 0)), .nilS])]) (.seq (.seq (g_ 3 [p_ 0 3 (m_ 0), c_ 1 4 20 [.t 3], p_ 2 5 (.un 0 (.t 4))]) (.cond (.t 5) (.seq (g_ 2 [p_ 0 6 (.bld [(.int 1 (.ofNat 0)), (.int 3 (.ofNat 0)), .nilS] [] []), e0_ 1 (.st 3 (.t 2) (.t 6))]) .ret) .skip)) (.seq (g_ 7 [p_ 0 7 (m_ 0), p_ 1 8 (n_ 7), p_ 2 9 (f_ 0 8), p_ 3 10 (f_ 0 9), r_ 4 11 (.ld true 3 (.t 10)), c_ 5 12 45 [.t 11], e0_ 6 (.st 3 (.t 2) (.t 12))]) .ret)))
theorem tz17_g : tz_Good 17 tz17 := ⟨by kernel_rfl, by kernel_rfl⟩
def tz18 : XF := .mk 13 .none (.seq (g_ 8 [p_ 0 2 (m_ 0), c_ 1 3 39 [.t 2], p_ 2 4 (.un 0 (.t 3)), p_ 3 5 (m_ 4), pg_ 4 6 5 true (m_ 0), cg_ 5 7 5 true 20 [.t 6], pg_ 6 8 5 true (.un 0 (.t 7)), p_ 7 9 (.pick (.t 5) (.t 8) (.c (.bool false)))]) (.cond (.t 9) (g_ 4 [p_ 0 10 (m_ 0), p_ 1 11 (n_ 10), p_ 2 12 (f_ 14 11), e0_ 3 (.st 1 (.t 12) (.c (.bool true)))]) .skip))
theorem tz18_g : tz_Good 18 tz18 := ⟨by kernel_rfl, by kernel_rfl⟩
def tz19 : XF := .mk 10 .none (.seq (g_ 2 [p_ 0 2 (m_ 0), c_ 1 3 20 [.t 2]]) (.cond (.t 3) (g_ 6 [p_ 0 4 (m_ 0), p_ 1 5 (m_ 0), p_ 2 6 (n_ 5), p_ 3 7 (f_ 8 6), r_ 4 8 (.ld true 2 (.t 7)), c_ 5 9 46 [(.t 4), (.t 8)]]) .skip))
theorem tz19_g : tz_Good 19 tz19 := ⟨by kernel_rfl, by kernel_rfl⟩
def tz20 : XF := .mk 15 (.one 2) (.seq (g_ 1 [p_ 0 2 (.mv (.c (.bool false)))]) (.seq (g_ 13 [p_ 0 3 (m_ 0), c_ 1 4 39 [.t 3], p_ 2 5 (.un 0 (.t 4)), p_ 3 6 (m_ 5), pg_ 4 7 6 true (m_ 0), pg_ 5 8 6 true (n_ 7), pg_ 6 9 6 true (f_ 0 8), pg_ 7 10 6 true (f_ 0 9), pg_ 8 11 6 true (f_ 1 10), rg_ 9 12 6 true (l_ 11), pg_ 10 13 6 true (.bin 3 2 (.t 12) (.c (.int 3 (.ofNat 0)))), p_ 11 14 (.pick (.t 6) (.t 13) (.c (.bool false))), p_ 12 2 (m_ 14)]) .ret))
theorem tz20_g : tz_Good 20 tz20 := ⟨by kernel_rfl, by kernel_rfl⟩
def tz21 : XF := .mk 24 .none (.seq (g_ 1 [e_ 0 3 (.box 52 (.t 1))]) (.seq (h_ 10 [p_ 0 4 (m_ 0), c_ 1 5 20 [.t 4], p_ 2 6 (m_ 5), rg_ 3 7 6 true (.ld true 2 (.t 3)), pg_ 4 8 6 true (m_ 0), pg_ 5 9 6 true (n_ 8), pg_ 6 10 6 true (f_ 8 9), rg_ 7 11 6 true (.ld true 2 (.t 10)), pg_ 8 12 6 true (.eqs true 2 (.st [(0, 1, false, .int), (1, 1, false, .int)]) (.t 7) (.t 11)), p_ 9 13 (.pick (.t 6) (.t 12) (.c (.bool false)))]) (.cond (.t 13) (h_ 11 [p_ 0 14 (m_ 0), p_ 1 15 (m_ 0), p_ 2 16 (m_ 0), p_ 3 17 (n_ 16), p_ 4 18 (f_ 11 17), r_ 5 19 (l_ 18), r_ 6 20 (.ld true 2 (.t 3)), c_ 7 21 47 [(.t 15), (.t 19), (.t 20)], p_ 8 22 (n_ 14), p_ 9 23 (f_ 11 22), e0_ 10 (.st 1 (.t 23) (.t 21))]) .skip)))
theorem tz21_g : tz_Good 21 tz21 := ⟨by kernel_rfl, by kernel_rfl⟩
def tz22 : XF := .mk 6 (.cell 2 true 2) (.seq (g_ 1 [e_ 0 2 (.al 52 [(.int 1 (.ofNat 0)), (.int 2 (.ofNat 0))])]) (.seq (g_ 4 [p_ 0 3 (m_ 0), p_ 1 4 (.cnv 1 (.t 3)), p_ 2 5 (.bld [(.int 1 (.ofNat 0)), (.int 2 (.ofNat 0))] [(0, 1), (1, 1)] [(.t 4), (.c (.int 2 (.ofNat 1)))]), e0_ 3 (.st 2 (.t 2) (.t 5))]) .ret))
theorem tz22_g : tz_Good 22 tz22 := ⟨by kernel_rfl, by kernel_rfl⟩
def tz23 : XF := .mk 26 (.one 2) (.seq (g_ 1 [p_ 0 2 (.mv (.c (.bool false)))]) (.seq (h_ 24 [p_ 0 3 (m_ 0), c_ 1 4 20 [.t 3], p_ 2 5 (m_ 4), pg_ 3 6 5 true (m_ 0), pg_ 4 7 5 true (n_ 6), pg_ 5 8 5 true (f_ 0 7), pg_ 6 9 5 true (f_ 0 8), rg_ 7 10 5 true (.ld true 3 (.t 9)), pg_ 9 12 5 true (m_ 0), pg_ 10 13 5 true (n_ 12), pg_ 11 14 5 true (f_ 8 13), rg_ 12 15 5 true (.ld true 2 (.t 14)), cg_ 8 11 5 true 48 [.t 10], ag_ 12 15 5 true (.ld true 2 (.t 14)), pg_ 13 16 5 true (.eqs false 2 (.st [(0, 1, false, .int), (1, 1, false, .int)]) (.t 11) (.t 15)), p_ 14 17 (.pick (.t 5) (.t 16) (.c (.bool false))), p_ 15 18 (m_ 17), pg_ 16 19 18 true (m_ 0), pg_ 17 20 18 true (n_ 19), pg_ 18 21 18 true (f_ 0 20), pg_ 19 22 18 true (f_ 3 21), rg_ 20 23 18 true (l_ 22), cg_ 21 24 18 true 49 [.t 23], p_ 22 25 (.pick (.t 18) (.t 24) (.c (.bool false))), p_ 23 2 (m_ 25)]) .ret))
theorem tz23_g : tz_Good 23 tz23 := ⟨by kernel_rfl, by kernel_rfl⟩
def tz24 : XF := .mk 42 (.one 2) (.seq (g_ 1 [p_ 0 2 (.mv (.c (.bool false)))]) (.seq (.seq (g_ 1 [p_ 0 3 (.mv (i_ 0))]) (.block 2 (.loop [0, 2, 3, 4, 5, 6, 7, 8, 9, 10, 11, 12, 13, 14, 15, 16, 17, 18, 19, 20, 21, 22, 23, 24, 25, 26, 27, 28, 29, 30, 31, 32, 33, 34, 35, 36, 37, 38, 39, 40, 41] (.seq (.seq (g_ 8 [p_ 0 4 (m_ 3), p_ 1 5 (m_ 0), p_ 2 6 (k_ 5), p_ 3 7 (.bin 3 0 (.t 4) (.t 6)), p_ 4 8 (m_ 7), pg_ 5 9 8 true (m_ 3), pg_ 6 10 8 true (.bin 3 0 (.t 9) (i_ 80)), p_ 7 11 (.pick (.t 8) (.t 10) (.c (.bool false)))]) (.cond (.t 11) .skip (.exit 2))) (.seq (.block 3 (.seq (h_ 25 [p_ 0 14 (m_ 0), p_ 1 15 (m_ 3), p_ 2 16 (.ixs 35 (.t 14) (.t 15)), p_ 3 17 (f_ 4 16), r_ 4 18 (.ld true 31 (.t 17)), c_ 5 19 50 [.t 18], p_ 6 20 (.un 0 (.t 19)), p_ 7 21 (m_ 20), pg_ 8 22 21 false (m_ 0), pg_ 9 23 21 false (m_ 3), pg_ 10 24 21 false (.ixs 35 (.t 22) (.t 23)), pg_ 11 25 21 false (f_ 4 24), pg_ 12 26 21 false (f_ 29 25), rg_ 13 27 21 false (l_ 26), pg_ 14 28 21 false (k_ 27), pg_ 15 29 21 false (m_ 0), pg_ 16 30 21 false (m_ 3), pg_ 17 31 21 false (.ixs 35 (.t 29) (.t 30)), pg_ 18 32 21 false (f_ 4 31), pg_ 19 33 21 false (f_ 30 32), rg_ 20 34 21 false (l_ 33), pg_ 21 35 21 false (k_ 34), pg_ 22 36 21 false (.bin 0 0 (.t 28) (.t 35)), pg_ 23 37 21 false (.bin 3 2 (.t 36) (i_ 40)), p_ 24 38 (.pick (.t 21) (.c (.bool true)) (.t 37))]) (.cond (.t 38) (.seq (g_ 1 [p_ 0 2 (.mv (.c (.bool false)))]) .ret) .skip))) (g_ 3 [p_ 0 12 (m_ 3), p_ 1 13 (.bin 0 0 (.t 12) (i_ 1)), p_ 2 3 (m_ 13)])))))) (.seq (g_ 4 [p_ 0 39 (m_ 0), p_ 1 40 (k_ 39), p_ 2 41 (.bin 3 1 (.t 40) (i_ 70)), p_ 3 2 (m_ 41)]) .ret)))
theorem tz24_g : tz_Good 24 tz24 := ⟨by kernel_rfl, by kernel_rfl⟩
def tz25 : XF := .mk 12 .none (.seq (g_ 3 [p_ 0 4 (m_ 0), c_ 1 5 39 [.t 4], p_ 2 6 (.un 0 (.t 5))]) (.cond (.t 6) (g_ 6 [p_ 0 7 (m_ 0), p_ 1 8 (m_ 1), c_ 2 9 51 [.t 8], p_ 3 10 (n_ 7), p_ 4 11 (f_ 10 10), e0_ 5 (.st 1 (.t 11) (.t 9))]) .skip))
theorem tz25_g : tz_Good 25 tz25 := ⟨by kernel_rfl, by kernel_rfl⟩
def tz26 : XF := .mk 8 (.cell 2 true 2) (.seq (g_ 2 [e_ 0 1 (.box 55 (.t 0)), e_ 1 2 (.al 52 [(.int 1 (.ofNat 0)), (.int 2 (.ofNat 0))])]) (.seq (g_ 6 [p_ 0 3 (f_ 0 1), r_ 1 4 (l_ 3), p_ 2 5 (f_ 1 1), r_ 3 6 (l_ 5), p_ 4 7 (.bld [(.int 1 (.ofNat 0)), (.int 2 (.ofNat 0))] [(0, 1), (1, 1)] [(.t 4), (.t 6)]), e0_ 5 (.st 2 (.t 2) (.t 7))]) .ret))
theorem tz26_g : tz_Good 26 tz26 := ⟨by kernel_rfl, by kernel_rfl⟩
def tz27 : XF := .mk 4 (.one 2) (.seq (g_ 1 [p_ 0 2 (.mv (i_ 0))]) (.seq (g_ 2 [p_ 0 3 (m_ 0), p_ 1 2 (m_ 3)]) .ret))
theorem tz27_g : tz_Good 27 tz27 := ⟨by kernel_rfl, by kernel_rfl⟩
def tz28 : XF := .mk 19 (.one 4) (.seq (g_ 2 [e_ 0 3 (.box 88 (.t 1)), p_ 1 4 (.mv (i_ 0))]) (.seq (.block 2 (.seq (g_ 3 [p_ 0 6 (m_ 0), c_ 1 7 39 [.t 6], p_ 2 5 (m_ 7)]) (.cond (.t 5) (.seq (g_ 1 [p_ 0 4 (.mv (i_ 1))]) .ret) (.seq (g_ 4 [p_ 0 9 (m_ 0), c_ 1 10 20 [.t 9], p_ 2 11 (.un 0 (.t 10)), p_ 3 8 (m_ 11)]) (.cond (.t 8) (.seq (g_ 1 [p_ 0 4 (.mv (i_ 15))]) .ret) .skip))))) (.seq (h_ 8 [p_ 0 12 (m_ 0), p_ 1 13 (n_ 12), p_ 2 14 (f_ 0 13), p_ 3 15 (f_ 3 14), r_ 4 16 (l_ 15), r_ 5 17 (.ld true 18 (.t 3)), c_ 6 18 52 [(.t 16), (.t 17)], p_ 7 4 (m_ 18)]) .ret)))
theorem tz28_g : tz_Good 28 tz28 := ⟨by kernel_rfl, by kernel_rfl⟩
def tz29 : XF := .mk 12 (.cell 2 true 18) (.seq (g_ 1 [e_ 0 2 (.al 88 [(.int 1 (.ofNat 0)), (.int 1 (.ofNat 0)), (.int 2 (.ofNat 0)), (.int 3 (.ofNat 0)), (.int 1 (.ofNat 0)), (.int 1 (.ofNat 0)), (.int 1 (.ofNat 0)), (.int 1 (.ofNat 0)), (.int 1 (.ofNat 0)), (.int 1 (.ofNat 0)), (.int 1 (.ofNat 0)), (.int 3 (.ofNat 0)), .nilS, (.int 1 (.ofNat 0)), (.str []), .nilS, (.int 1 (.ofNat 0)), (.int 2 (.ofNat 0))])]) (.seq (g_ 10 [p_ 0 3 (m_ 0), p_ 1 4 (.bin 0 4 (.t 3) (i_ 16)), p_ 2 5 (.cnv 1 (.t 4)), p_ 3 6 (m_ 0), p_ 4 7 (.bin 0 3 (.t 6) (i_ 16)), p_ 5 8 (.bin 0 0 (i_ 1) (.t 7)), p_ 6 9 (.cnv 2 (.t 8)), p_ 7 10 (.bld [(.int 1 (.ofNat 0)), (.int 2 (.ofNat 0))] [(0, 1), (1, 1)] [(.t 5), (.t 9)]), p_ 8 11 (.bld [(.int 1 (.ofNat 0)), (.int 1 (.ofNat 0)), (.int 2 (.ofNat 0)), (.int 3 (.ofNat 0)), (.int 1 (.ofNat 0)), (.int 1 (.ofNat 0)), (.int 1 (.ofNat 0)), (.int 1 (.ofNat 0)), (.int 1 (.ofNat 0)), (.int 1 (.ofNat 0)), (.int 1 (.ofNat 0)), (.int 3 (.ofNat 0)), .nilS, (.int 1 (.ofNat 0)), (.str []), .nilS, (.int 1 (.ofNat 0)), (.int 2 (.ofNat 0))] [(0, 1), (16, 2)] [(.c (.int 1 (.ofNat 2))), (.t 10)]), e0_ 9 (.st 18 (.t 2) (.t 11))]) .ret))
theorem tz29_g : tz_Good 29 tz29 := ⟨by kernel_rfl, by kernel_rfl⟩
def tz30 : XF := .mk 95 (.one 4) (.seq (g_ 1 [p_ 0 4 (.mv (.c .nilS))]) (.seq (g_ 3 [p_ 0 7 (.bld [(.int 1 (.ofNat 0)), (.int 1 (.ofNat 0)), (.int 1 (.ofNat 0)), (.int 3 (.ofNat 0)), (.int 3 (.ofNat 0)), (.int 3 (.ofNat 0)), (.int 3 (.ofNat 0)), (.int 4 (.ofNat 0)), (.int 4 (.ofNat 0)), (.int 1 (.ofNat 0)), (.int 2 (.ofNat 0)), (.int 3 (.ofNat 0)), (.int 1 (.ofNat 0)), (.int 1 (.ofNat 0)), (.int 1 (.ofNat 0)), (.int 1 (.ofNat 0)), (.int 1 (.ofNat 0)), (.int 1 (.ofNat 0)), (.int 1 (.ofNat 0)), .nilS, (.int 1 (.ofNat 0)), (.str []), (.int 1 (.ofNat 0)), (.int 3 (.ofNat 0)), .nilS, (.int 1 (.ofNat 0)), (.int 2 (.ofNat 0)), (.bool false), .nilS, .nilS, .nilS] [(0, 1)] [(.c (.int 1 (.ofNat 11)))]), e_ 1 5 (.al 94 [(.int 1 (.ofNat 0)), (.int 1 (.ofNat 0)), (.int 1 (.ofNat 0)), (.int 3 (.ofNat 0)), (.int 3 (.ofNat 0)), (.int 3 (.ofNat 0)), (.int 3 (.ofNat 0)), (.int 4 (.ofNat 0)), (.int 4 (.ofNat 0)), (.int 1 (.ofNat 0)), (.int 2 (.ofNat 0)), (.int 3 (.ofNat 0)), (.int 1 (.ofNat 0)), (.int 1 (.ofNat 0)), (.int 1 (.ofNat 0)), (.int 1 (.ofNat 0)), (.int 1 (.ofNat 0)), (.int 1 (.ofNat 0)), (.int 1 (.ofNat 0)), .nilS, (.int 1 (.ofNat 0)), (.str []), (.int 1 (.ofNat 0)), (.int 3 (.ofNat 0)), .nilS, (.int 1 (.ofNat 0)), (.int 2 (.ofNat 0)), (.bool false), .nilS, .nilS, .nilS]), e0_ 2 (.st 31 (.t 5) (.t 7))]) (.seq (.seq (g_ 3 [p_ 0 8 (m_ 0), c_ 1 9 39 [.t 8], p_ 2 10 (.un 0 (.t 9))]) (.cond (.t 10) (h_ 12 [p_ 0 11 (m_ 0), p_ 1 12 (n_ 11), p_ 2 13 (f_ 7 12), r_ 3 14 (l_ 13), p_ 4 15 (m_ 0), p_ 5 16 (n_ 15), p_ 6 17 (f_ 8 16), r_ 7 18 (.ld true 2 (.t 17)), p_ 8 19 (f_ 1 5), e0_ 9 (.st 1 (.t 19) (.t 14)), a_ 7 18 (.ld true 2 (.t 17)), p_ 10 20 (f_ 25 5), e0_ 11 (.st 2 (.t 20) (.t 18))]) .skip)) (.seq (.seq (g_ 3 [p_ 0 21 (m_ 0), c_ 1 22 20 [.t 21], p_ 2 23 (.un 0 (.t 22))]) (.cond (.t 23) (.seq (.seq (g_ 9 [p_ 0 24 (m_ 0), c_ 1 25 39 [.t 24], p_ 2 26 (m_ 25), pg_ 3 27 26 false (m_ 0), pg_ 4 28 26 false (n_ 27), pg_ 5 29 26 false (f_ 14 28), rg_ 6 30 26 false (l_ 29), pg_ 7 31 26 false (.un 0 (.t 30)), p_ 8 32 (.pick (.t 26) (.c (.bool true)) (.t 31))]) (.cond (.t 32) (.seq (g_ 1 [p_ 0 4 (.mv (.c .nilS))]) .ret) .skip)) (.seq (h_ 8 [p_ 0 33 (m_ 0), r_ 1 34 (.ld true 31 (.t 5)), p_ 2 35 (m_ 0), p_ 3 36 (n_ 35), p_ 4 37 (f_ 10 36), r_ 5 38 (l_ 37), c_ 6 39 53 [(.t 33), (.t 34), (.t 38)], p_ 7 4 (m_ 39)]) .ret)) .skip)) (.seq (g_ 1 [p_ 0 6 (.mv (.c .nilS))]) (.seq (.seq (h_ 9 [p_ 0 40 (m_ 0), p_ 1 41 (n_ 40), p_ 2 42 (f_ 13 41), r_ 3 43 (l_ 42), p_ 4 44 (m_ 0), p_ 5 45 (n_ 44), p_ 6 46 (f_ 8 45), r_ 7 47 (.ld true 2 (.t 46)), c_ 8 48 54 [(.t 43), (.t 47)]]) (.cond (.t 48) (.seq (g_ 2 [p_ 0 49 (f_ 0 5), e0_ 1 (.st 1 (.t 49) (.c (.int 1 (.ofNat 12))))]) (h_ 10 [p_ 0 50 (m_ 0), r_ 1 51 (.ld true 31 (.t 5)), p_ 2 52 (m_ 0), p_ 3 53 (n_ 52), p_ 4 54 (f_ 0 53), p_ 5 55 (f_ 0 54), p_ 6 56 (f_ 2 55), r_ 7 57 (l_ 56), c_ 8 58 53 [(.t 50), (.t 51), (.t 57)], p_ 9 6 (m_ 58)])) .skip)) (.seq (.seq (h_ 11 [p_ 0 59 (m_ 0), p_ 1 60 (n_ 59), p_ 2 61 (f_ 0 60), p_ 3 62 (f_ 0 61), r_ 4 63 (.ld true 3 (.t 62)), p_ 6 65 (m_ 0), p_ 7 66 (n_ 65), p_ 8 67 (f_ 8 66), r_ 9 68 (.ld true 2 (.t 67)), c_ 5 64 48 [.t 63], a_ 9 68 (.ld true 2 (.t 67)), p_ 10 69 (.eqs false 2 (.st [(0, 1, false, .int), (1, 1, false, .int)]) (.t 64) (.t 68))]) (.cond (.t 69) (g_ 5 [p_ 0 70 (m_ 6), p_ 1 71 (m_ 0), c_ 2 72 55 [.t 71], e_ 3 73 (.app 150 33 224 (.t 70) (.t 72)), p_ 4 6 (m_ 73)]) .skip)) (.seq (.block 2 (.seq (g_ 7 [p_ 0 75 (m_ 0), p_ 1 76 (n_ 75), p_ 2 77 (f_ 0 76), p_ 3 78 (f_ 5 77), r_ 4 79 (l_ 78), p_ 5 80 (.isn true 1 (.t 79)), p_ 6 74 (m_ 80)]) (.cond (.t 74) (g_ 5 [p_ 0 81 (m_ 6), p_ 1 82 (m_ 0), c_ 2 83 56 [.t 82], e_ 3 84 (.app 150 33 224 (.t 81) (.t 83)), p_ 4 6 (m_ 84)]) (.seq (g_ 4 [p_ 0 86 (m_ 0), p_ 1 87 (m_ 1), c_ 2 88 57 [(.t 86), (.t 87)], p_ 3 85 (m_ 88)]) (.cond (.t 85) (g_ 6 [p_ 0 89 (m_ 6), p_ 1 90 (m_ 0), p_ 2 91 (m_ 1), c_ 3 92 58 [(.t 90), (.t 91)], e_ 4 93 (.app 150 33 224 (.t 89) (.t 92)), p_ 5 6 (m_ 93)]) .skip))))) (.seq (g_ 2 [p_ 0 94 (m_ 6), p_ 1 4 (m_ 94)]) .ret)))))))))
theorem tz30_g : tz_Good 30 tz30 := ⟨by kernel_rfl, by kernel_rfl⟩
def tz31 : XF := .mk 105 (.one 8) (.seq (g_ 3 [e_ 0 6 (.box 52 (.t 2)), e_ 1 7 (.box 94 (.t 3)), p_ 2 8 (.mv (.c .nilS))]) (.seq (.seq (g_ 9 [p_ 0 10 (m_ 0), c_ 1 11 39 [.t 10], p_ 2 12 (m_ 11), pg_ 3 13 12 false (m_ 0), rg_ 4 14 12 false (.ld true 2 (.t 6)), rg_ 5 15 12 false (.ld true 31 (.t 7)), cg_ 6 16 12 false 59 [(.t 13), (.t 14), (.t 15)], pg_ 7 17 12 false (.un 0 (.t 16)), p_ 8 18 (.pick (.t 12) (.c (.bool true)) (.t 17))]) (.cond (.t 18) (.seq (g_ 1 [p_ 0 8 (.mv (.c .nilS))]) .ret) .skip)) (.seq (h_ 10 [p_ 0 19 (f_ 3 7), r_ 1 20 (l_ 19), p_ 2 21 (m_ 0), p_ 3 22 (n_ 21), p_ 4 23 (f_ 0 22), p_ 5 24 (f_ 0 23), p_ 6 25 (f_ 1 24), r_ 7 26 (l_ 25), p_ 8 27 (.bin 3 0 (.t 20) (.t 26)), p_ 9 9 (m_ 27)]) (.seq (.seq (g_ 2 [p_ 0 28 (f_ 0 7), r_ 1 29 (l_ 28)]) (.block 2 (.seq (.block 7 (.seq (.block 6 (.seq (.block 5 (.seq (.block 4 (.seq (.block 3 (.seq (.seq (.seq (g_ 2 [p_ 0 31 (.bin 3 4 (.t 29) (.c (.int 1 (.ofNat 10)))), p_ 1 30 (m_ 31)]) (.cond (.t 30) (.exit 3) .skip)) (.seq (.seq (g_ 2 [p_ 0 33 (.bin 3 4 (.t 29) (.c (.int 1 (.ofNat 3)))), p_ 1 32 (m_ 33)]) (.cond (.t 32) (.exit 4) .skip)) (.seq (.seq (.seq (g_ 2 [p_ 0 35 (.bin 3 4 (.t 29) (.c (.int 1 (.ofNat 4)))), p_ 1 34 (m_ 35)]) (.cond (.t 34) .skip (.seq (g_ 2 [p_ 0 36 (.bin 3 4 (.t 29) (.c (.int 1 (.ofNat 5)))), p_ 1 34 (m_ 36)]) (.cond (.t 34) .skip (g_ 2 [p_ 0 37 (.bin 3 4 (.t 29) (.c (.int 1 (.ofNat 9)))), p_ 1 34 (m_ 37)]))))) (.cond (.t 34) (.exit 5) .skip)) (.seq (.seq (g_ 2 [p_ 0 39 (.bin 3 4 (.t 29) (.c (.int 1 (.ofNat 11)))), p_ 1 38 (m_ 39)]) (.cond (.t 38) (.exit 6) .skip)) (.seq (g_ 2 [p_ 0 41 (.bin 3 4 (.t 29) (.c (.int 1 (.ofNat 12)))), p_ 1 40 (m_ 41)]) (.cond (.t 40) (.exit 7) .skip)))))) (.exit 2))) (.seq (.seq (.seq (h_ 8 [p_ 0 42 (f_ 22 7), p_ 1 43 (f_ 1 42), r_ 2 44 (l_ 43), p_ 3 45 (m_ 0), p_ 4 46 (n_ 45), p_ 5 47 (f_ 15 46), r_ 6 48 (l_ 47), p_ 7 49 (.bin 3 2 (.t 44) (.t 48))]) (.cond (.t 49) (g_ 7 [p_ 0 50 (m_ 0), p_ 1 51 (m_ 1), p_ 2 52 (f_ 22 7), r_ 3 53 (.ld true 3 (.t 52)), p_ 4 54 (f_ 29 7), r_ 5 55 (l_ 54), c_ 6 56 60 [(.t 50), (.t 51), (.t 53), (.t 55)]]) .skip)) (.seq (g_ 1 [p_ 0 8 (.mv (.c .nilS))]) .ret)) (.exit 2)))) (.seq (g_ 2 [p_ 0 57 (m_ 9), p_ 1 58 (.un 0 (.t 57))]) (.cond (.t 58) (.seq (g_ 5 [p_ 0 59 (m_ 0), r_ 1 60 (.ld true 2 (.t 6)), r_ 2 61 (.ld true 31 (.t 7)), c_ 3 62 61 [(.t 59), (.t 60), (.t 61)], p_ 4 8 (m_ 62)]) .ret) .skip)))) (.seq (.seq (g_ 5 [p_ 0 63 (m_ 0), c_ 1 64 20 [.t 63], p_ 2 65 (m_ 64), pg_ 3 66 65 true (m_ 9), p_ 4 67 (.pick (.t 65) (.t 66) (.c (.bool false)))]) (.cond (.t 67) (.seq (.reg true 7 (.split 2 4 (.leaf [p_ 0 68 (m_ 0), p_ 1 69 (m_ 0), r_ 3 71 (.ld true 2 (.t 6)), c_ 2 70 62 [.t 69], a_ 3 71 (.ld true 2 (.t 6)), e_ 4 72 (.bsl 52 2 1 [(.int 1 (.ofNat 0)), (.int 2 (.ofNat 0))] [(0, 2)] [.t 71]), c_ 5 73 53 [(.t 68), (.t 70), (.t 72)], p_ 6 8 (m_ 73)]) (.leaf [p_ 0 68 (m_ 0), p_ 1 69 (m_ 0), r_ 3 71 (.ld true 2 (.t 6)), e_ 4 72 (.bsl 52 2 1 [(.int 1 (.ofNat 0)), (.int 2 (.ofNat 0))] [(0, 2)] [.t 71]), c_ 2 70 62 [.t 69], c_ 5 73 53 [(.t 68), (.t 70), (.t 72)], p_ 6 8 (m_ 73)]))) .ret) .skip)) (.exit 2)))) (.seq (.seq (g_ 2 [p_ 0 74 (m_ 0), c_ 1 75 20 [.t 74]]) (.cond (.t 75) (.seq (g_ 5 [p_ 0 76 (m_ 0), p_ 1 77 (f_ 25 7), r_ 2 78 (.ld true 2 (.t 77)), c_ 3 79 63 [(.t 76), (.t 78)], p_ 4 8 (m_ 79)]) .ret) .skip)) (.exit 2)))) (.seq (.seq (g_ 2 [p_ 0 80 (m_ 0), c_ 1 81 20 [.t 80]]) (.cond (.t 81) (g_ 4 [p_ 0 82 (m_ 0), p_ 1 83 (f_ 25 7), r_ 2 84 (.ld true 2 (.t 83)), c_ 3 85 46 [(.t 82), (.t 84)]]) .skip)) (.exit 2))))) (.seq (.seq (h_ 14 [p_ 0 86 (m_ 0), c_ 1 87 20 [.t 86], p_ 2 88 (.un 0 (.t 87)), p_ 3 89 (m_ 88), pg_ 4 90 89 false (f_ 3 7), rg_ 5 91 89 false (l_ 90), pg_ 6 92 89 false (m_ 0), pg_ 7 93 89 false (n_ 92), pg_ 8 94 89 false (f_ 0 93), pg_ 9 95 89 false (f_ 0 94), pg_ 10 96 89 false (f_ 1 95), rg_ 11 97 89 false (l_ 96), pg_ 12 98 89 false (.bin 3 5 (.t 91) (.t 97)), p_ 13 99 (.pick (.t 89) (.c (.bool true)) (.t 98))]) (.cond (.t 99) (.seq (g_ 1 [p_ 0 8 (.mv (.c .nilS))]) .ret) .skip)) (.seq (g_ 6 [p_ 0 100 (m_ 0), p_ 1 101 (m_ 1), r_ 2 102 (.ld true 2 (.t 6)), r_ 3 103 (.ld true 31 (.t 7)), c_ 4 104 64 [(.t 100), (.t 101), (.t 102), (.t 103)], p_ 5 8 (m_ 104)]) .ret))))))
theorem tz31_g : tz_Good 31 tz31 := ⟨by kernel_rfl, by kernel_rfl⟩
def tz32 : XF := .mk 48 (.cell 2 true 31) (.seq (g_ 2 [e_ 0 1 (.box 70 (.t 0)), e_ 1 2 (.al 94 [(.int 1 (.ofNat 0)), (.int 1 (.ofNat 0)), (.int 1 (.ofNat 0)), (.int 3 (.ofNat 0)), (.int 3 (.ofNat 0)), (.int 3 (.ofNat 0)), (.int 3 (.ofNat 0)), (.int 4 (.ofNat 0)), (.int 4 (.ofNat 0)), (.int 1 (.ofNat 0)), (.int 2 (.ofNat 0)), (.int 3 (.ofNat 0)), (.int 1 (.ofNat 0)), (.int 1 (.ofNat 0)), (.int 1 (.ofNat 0)), (.int 1 (.ofNat 0)), (.int 1 (.ofNat 0)), (.int 1 (.ofNat 0)), (.int 1 (.ofNat 0)), .nilS, (.int 1 (.ofNat 0)), (.str []), (.int 1 (.ofNat 0)), (.int 3 (.ofNat 0)), .nilS, (.int 1 (.ofNat 0)), (.int 2 (.ofNat 0)), (.bool false), .nilS, .nilS, .nilS])]) (.seq (h_ 46 [p_ 0 3 (f_ 0 1), r_ 1 4 (l_ 3), p_ 2 5 (f_ 1 1), r_ 3 6 (l_ 5), p_ 4 7 (f_ 2 1), r_ 5 8 (l_ 7), p_ 6 9 (f_ 3 1), r_ 7 10 (l_ 9), p_ 8 11 (f_ 4 1), r_ 9 12 (l_ 11), p_ 10 13 (f_ 5 1), r_ 11 14 (l_ 13), p_ 12 15 (f_ 6 1), r_ 13 16 (l_ 15), p_ 14 17 (f_ 7 1), r_ 15 18 (l_ 17), p_ 16 19 (f_ 8 1), r_ 17 20 (l_ 19), p_ 18 21 (f_ 9 1), r_ 19 22 (.ld true 10 (.t 21)), p_ 21 24 (f_ 19 1), r_ 22 25 (l_ 24), p_ 24 27 (f_ 20 1), r_ 25 28 (.ld true 2 (.t 27)), p_ 27 30 (f_ 22 1), r_ 28 31 (.ld true 3 (.t 30)), p_ 30 33 (f_ 25 1), r_ 31 34 (.ld true 2 (.t 33)), p_ 33 36 (f_ 27 1), r_ 34 37 (l_ 36), p_ 35 38 (f_ 28 1), r_ 36 39 (l_ 38), p_ 38 41 (f_ 29 1), r_ 39 42 (l_ 41), p_ 41 44 (f_ 30 1), r_ 42 45 (l_ 44), c_ 20 23 65 [.t 22], a_ 1 4 (l_ 3), a_ 3 6 (l_ 5), a_ 5 8 (l_ 7), a_ 7 10 (l_ 9), a_ 9 12 (l_ 11), a_ 11 14 (l_ 13), a_ 13 16 (l_ 15), a_ 15 18 (l_ 17), a_ 17 20 (l_ 19), a_ 22 25 (l_ 24), a_ 25 28 (.ld true 2 (.t 27)), a_ 28 31 (.ld true 3 (.t 30)), a_ 31 34 (.ld true 2 (.t 33)), a_ 34 37 (l_ 36), a_ 36 39 (l_ 38), a_ 39 42 (l_ 41), a_ 42 45 (l_ 44), c_ 23 26 66 [.t 25], a_ 1 4 (l_ 3), a_ 3 6 (l_ 5), a_ 5 8 (l_ 7), a_ 7 10 (l_ 9), a_ 9 12 (l_ 11), a_ 11 14 (l_ 13), a_ 13 16 (l_ 15), a_ 15 18 (l_ 17), a_ 17 20 (l_ 19), a_ 25 28 (.ld true 2 (.t 27)), a_ 28 31 (.ld true 3 (.t 30)), a_ 31 34 (.ld true 2 (.t 33)), a_ 34 37 (l_ 36), a_ 36 39 (l_ 38), a_ 39 42 (l_ 41), a_ 42 45 (l_ 44), c_ 26 29 67 [.t 28], a_ 1 4 (l_ 3), a_ 3 6 (l_ 5), a_ 5 8 (l_ 7), a_ 7 10 (l_ 9), a_ 9 12 (l_ 11), a_ 11 14 (l_ 13), a_ 13 16 (l_ 15), a_ 15 18 (l_ 17), a_ 17 20 (l_ 19), a_ 28 31 (.ld true 3 (.t 30)), a_ 31 34 (.ld true 2 (.t 33)), a_ 34 37 (l_ 36), a_ 36 39 (l_ 38), a_ 39 42 (l_ 41), a_ 42 45 (l_ 44), c_ 29 32 68 [.t 31], a_ 1 4 (l_ 3), a_ 3 6 (l_ 5), a_ 5 8 (l_ 7), a_ 7 10 (l_ 9), a_ 9 12 (l_ 11), a_ 11 14 (l_ 13), a_ 13 16 (l_ 15), a_ 15 18 (l_ 17), a_ 17 20 (l_ 19), a_ 31 34 (.ld true 2 (.t 33)), a_ 34 37 (l_ 36), a_ 36 39 (l_ 38), a_ 39 42 (l_ 41), a_ 42 45 (l_ 44), c_ 32 35 26 [.t 34], a_ 1 4 (l_ 3), a_ 3 6 (l_ 5), a_ 5 8 (l_ 7), a_ 7 10 (l_ 9), a_ 9 12 (l_ 11), a_ 11 14 (l_ 13), a_ 13 16 (l_ 15), a_ 15 18 (l_ 17), a_ 17 20 (l_ 19), a_ 34 37 (l_ 36), a_ 36 39 (l_ 38), a_ 39 42 (l_ 41), a_ 42 45 (l_ 44), c_ 37 40 69 [.t 39], a_ 1 4 (l_ 3), a_ 3 6 (l_ 5), a_ 5 8 (l_ 7), a_ 7 10 (l_ 9), a_ 9 12 (l_ 11), a_ 11 14 (l_ 13), a_ 13 16 (l_ 15), a_ 15 18 (l_ 17), a_ 17 20 (l_ 19), a_ 34 37 (l_ 36), a_ 39 42 (l_ 41), a_ 42 45 (l_ 44), c_ 40 43 70 [.t 42], a_ 1 4 (l_ 3), a_ 3 6 (l_ 5), a_ 5 8 (l_ 7), a_ 7 10 (l_ 9), a_ 9 12 (l_ 11), a_ 11 14 (l_ 13), a_ 13 16 (l_ 15), a_ 15 18 (l_ 17), a_ 17 20 (l_ 19), a_ 34 37 (l_ 36), a_ 42 45 (l_ 44), c_ 43 46 70 [.t 45], a_ 1 4 (l_ 3), a_ 3 6 (l_ 5), a_ 5 8 (l_ 7), a_ 7 10 (l_ 9), a_ 9 12 (l_ 11), a_ 11 14 (l_ 13), a_ 13 16 (l_ 15), a_ 15 18 (l_ 17), a_ 17 20 (l_ 19), a_ 34 37 (l_ 36), p_ 44 47 (.bld [(.int 1 (.ofNat 0)), (.int 1 (.ofNat 0)), (.int 1 (.ofNat 0)), (.int 3 (.ofNat 0)), (.int 3 (.ofNat 0)), (.int 3 (.ofNat 0)), (.int 3 (.ofNat 0)), (.int 4 (.ofNat 0)), (.int 4 (.ofNat 0)), (.int 1 (.ofNat 0)), (.int 2 (.ofNat 0)), (.int 3 (.ofNat 0)), (.int 1 (.ofNat 0)), (.int 1 (.ofNat 0)), (.int 1 (.ofNat 0)), (.int 1 (.ofNat 0)), (.int 1 (.ofNat 0)), (.int 1 (.ofNat 0)), (.int 1 (.ofNat 0)), .nilS, (.int 1 (.ofNat 0)), (.str []), (.int 1 (.ofNat 0)), (.int 3 (.ofNat 0)), .nilS, (.int 1 (.ofNat 0)), (.int 2 (.ofNat 0)), (.bool false), .nilS, .nilS, .nilS] [(0, 1), (1, 1), (2, 1), (3, 1), (4, 1), (5, 1), (6, 1), (7, 1), (8, 1), (9, 10), (19, 1), (20, 2), (22, 3), (25, 2), (27, 1), (28, 1), (29, 1), (30, 1)] [(.t 4), (.t 6), (.t 8), (.t 10), (.t 12), (.t 14), (.t 16), (.t 18), (.t 20), (.t 23), (.t 26), (.t 29), (.t 32), (.t 35), (.t 37), (.t 40), (.t 43), (.t 46)]), e0_ 45 (.st 31 (.t 2) (.t 47))]) .ret))
theorem tz32_g : tz_Good 32 tz32 := ⟨by kernel_rfl, by kernel_rfl⟩
def tz33 : XF := .mk 24 (.one 2) (.seq (g_ 1 [p_ 0 2 (.mv (.c .nilS))]) (.seq (.seq (g_ 2 [p_ 0 6 (m_ 0), c_ 1 7 39 [.t 6]]) (.cond (.t 7) (.seq (g_ 1 [p_ 0 2 (.mv (.c .nilS))]) .ret) .skip)) (.seq (g_ 1 [p_ 0 3 (.mv (.c .nilS))]) (.seq (.seq (g_ 6 [p_ 0 8 (m_ 0), p_ 1 9 (n_ 8), p_ 2 10 (f_ 19 9), r_ 3 11 (l_ 10), p_ 4 12 (k_ 11), p_ 5 13 (.mv (i_ 0))]) (.block 2 (.loop [2, 3, 5, 11, 12, 13, 14, 15, 16, 17, 18, 19, 20, 21, 22, 23] (.seq (g_ 1 [p_ 0 14 (.bin 3 0 (.t 13) (.t 12))]) (.seq (.cond (.t 14) .skip (.exit 2)) (.seq (.block 3 (.seq (g_ 4 [p_ 0 15 (.ixs 3 (.t 11) (.t 13)), r_ 1 16 (.ld true 3 (.t 15)), e_ 2 5 (.al 45 [(.int 1 (.ofNat 0)), (.int 3 (.ofNat 0)), .nilS]), e0_ 3 (.st 3 (.t 5) (.t 16))]) (g_ 6 [p_ 0 17 (m_ 3), r_ 1 18 (.ld true 3 (.t 5)), c_ 2 19 45 [.t 18], e_ 3 20 (.bsl 45 3 1 [(.int 1 (.ofNat 0)), (.int 3 (.ofNat 0)), .nilS] [(0, 3)] [.t 19]), e_ 4 21 (.app 45 3 32 (.t 17) (.t 20)), p_ 5 3 (m_ 21)]))) (g_ 2 [p_ 0 22 (.bin 0 0 (.t 13) (i_ 1)), p_ 1 13 (m_ 22)]))))))) (.seq (g_ 2 [p_ 0 23 (m_ 3), p_ 1 2 (m_ 23)]) .ret)))))
theorem tz33_g : tz_Good 33 tz33 := ⟨by kernel_rfl, by kernel_rfl⟩
def tz34 : XF := .mk 24 (.one 4) (.seq (g_ 3 [e_ 0 2 (.box 45 (.t 0)), e_ 1 3 (.box 45 (.t 1)), p_ 2 4 (.mv (.c (.bool false)))]) (.seq (g_ 20 [p_ 0 5 (f_ 0 2), r_ 1 6 (l_ 5), p_ 2 7 (f_ 0 3), r_ 3 8 (l_ 7), p_ 4 9 (.bin 3 4 (.t 6) (.t 8)), p_ 5 10 (m_ 9), pg_ 6 11 10 true (f_ 1 2), rg_ 7 12 10 true (l_ 11), pg_ 8 13 10 true (f_ 1 3), rg_ 9 14 10 true (l_ 13), pg_ 10 15 10 true (.bin 3 4 (.t 12) (.t 14)), p_ 11 16 (.pick (.t 10) (.t 15) (.c (.bool false))), p_ 12 17 (m_ 16), pg_ 13 18 17 true (f_ 2 2), rg_ 14 19 17 true (l_ 18), pg_ 15 20 17 true (f_ 2 3), rg_ 16 21 17 true (l_ 20), cg_ 17 22 17 true 71 [(.t 19), (.t 21)], p_ 18 23 (.pick (.t 17) (.t 22) (.c (.bool false))), p_ 19 4 (m_ 23)]) .ret))
theorem tz34_g : tz_Good 34 tz34 := ⟨by kernel_rfl, by kernel_rfl⟩
def tz35 : XF := .mk 35 (.one 6) (.seq (g_ 2 [e_ 0 4 (.box 52 (.t 1)), p_ 1 6 (.mv (.c .nilP))]) (.seq (g_ 9 [p_ 0 11 (m_ 0), p_ 1 12 (m_ 2), c_ 2 13 72 [(.t 11), (.t 12)], p_ 3 10 (m_ 13), p_ 4 14 (.ext 0 (.t 10)), p_ 5 15 (.ext 1 (.t 10)), e_ 6 7 (.al 45 [(.int 1 (.ofNat 0)), (.int 3 (.ofNat 0)), .nilS]), e0_ 7 (.st 3 (.t 7) (.t 14)), p_ 8 8 (m_ 15)]) (.seq (.seq (g_ 7 [p_ 0 16 (m_ 8), p_ 1 17 (.bin 3 5 (.t 16) (i_ 0)), p_ 2 18 (m_ 17), rg_ 3 19 18 false (.ld true 2 (.t 4)), cg_ 4 20 18 false 73 [.t 19], pg_ 5 21 18 false (.un 0 (.t 20)), p_ 6 22 (.pick (.t 18) (.c (.bool true)) (.t 21))]) (.cond (.t 22) (.seq (g_ 1 [p_ 0 6 (.mv (.c .nilP))]) .ret) .skip)) (.seq (g_ 5 [p_ 0 23 (m_ 0), r_ 1 24 (.ld true 2 (.t 4)), p_ 2 25 (.bld [(.int 1 (.ofNat 0)), (.int 3 (.ofNat 0)), .nilS, .nilP, .nilP, .nilP, (o_ 0), (.int 1 (.ofNat 0)), (.int 1 (.ofNat 0)), (.int 2 (.ofNat 0)), .nilS, .nilS, .nilS, .nilS, (.bool false), (.int 3 (.ofNat 0)), (.int 3 (.ofNat 0)), (o_ 0), .nilS, .nilS, (o_ 0)] [(7, 1), (8, 2)] [(.t 23), (.t 24)]), e_ 3 26 (.box 105 (.t 25)), p_ 4 9 (m_ 26)]) (.seq (.seq (g_ 4 [r_ 0 27 (.ld true 3 (.t 7)), r_ 1 28 (.ld true 2 (.t 4)), c_ 2 29 74 [(.t 27), (.t 28)], p_ 3 30 (.bin 3 3 (.t 29) (i_ 0))]) (.cond (.t 30) (g_ 3 [p_ 0 31 (m_ 9), r_ 1 32 (.ld true 3 (.t 7)), c_ 2 33 60 [(.t 31), (i_ 0), (.t 32), (.c .nilS)]]) .skip)) (.seq (g_ 2 [p_ 0 34 (m_ 9), p_ 1 6 (m_ 34)]) .ret))))))
theorem tz35_g : tz_Good 35 tz35 := ⟨by kernel_rfl, by kernel_rfl⟩
def tz39 : XF := .mk 13 (.one 2) (.seq (g_ 1 [p_ 0 2 (.mv (.c (.bool false)))]) (.seq (g_ 11 [p_ 0 3 (m_ 0), p_ 1 4 (.isn false 1 (.t 3)), p_ 2 5 (m_ 4), pg_ 3 6 5 false (m_ 0), pg_ 4 7 5 false (n_ 6), pg_ 5 8 5 false (f_ 8 7), rg_ 6 9 5 false (.ld true 2 (.t 8)), cg_ 7 10 5 false 73 [.t 9], pg_ 8 11 5 false (.un 0 (.t 10)), p_ 9 12 (.pick (.t 5) (.c (.bool true)) (.t 11)), p_ 10 2 (m_ 12)]) .ret))
theorem tz39_g : tz_Good 39 tz39 := ⟨by kernel_rfl, by kernel_rfl⟩
def tz40 : XF := .mk 9 (.one 2) (.seq (g_ 1 [p_ 0 2 (.mv (i_ 0))]) (.seq (.seq (g_ 2 [p_ 0 3 (m_ 0), c_ 1 4 76 [.t 3]]) (.cond (.t 4) (.seq (g_ 1 [p_ 0 2 (.mv (i_ 0))]) .ret) .skip)) (.seq (g_ 5 [p_ 0 5 (m_ 0), p_ 1 6 (n_ 5), p_ 2 7 (f_ 7 6), r_ 3 8 (l_ 7), p_ 4 2 (m_ 8)]) .ret)))
theorem tz40_g : tz_Good 40 tz40 := ⟨by kernel_rfl, by kernel_rfl⟩
def tz41 : XF := .mk 10 (.one 2) (.seq (g_ 1 [p_ 0 2 (.mv (.c .nilS))]) (.seq (.seq (g_ 2 [p_ 0 3 (m_ 0), c_ 1 4 76 [.t 3]]) (.cond (.t 4) (.seq (g_ 1 [p_ 0 2 (.mv (.c .nilS))]) .ret) .skip)) (.seq (g_ 6 [p_ 0 5 (m_ 0), p_ 1 6 (n_ 5), p_ 2 7 (f_ 5 6), r_ 3 8 (l_ 7), c_ 4 9 77 [.t 8], p_ 5 2 (m_ 9)]) .ret)))
theorem tz41_g : tz_Good 41 tz41 := ⟨by kernel_rfl, by kernel_rfl⟩
def tz45 : XF := .mk 8 (.cell 2 true 3) (.seq (g_ 2 [e_ 0 1 (.box 45 (.t 0)), e_ 1 2 (.al 45 [(.int 1 (.ofNat 0)), (.int 3 (.ofNat 0)), .nilS])]) (.seq (g_ 5 [p_ 0 3 (f_ 2 1), r_ 1 4 (l_ 3), c_ 2 5 51 [.t 4], p_ 3 6 (f_ 2 1), e0_ 4 (.st 1 (.t 6) (.t 5))]) (.seq (g_ 2 [r_ 0 7 (.ld true 3 (.t 1)), e0_ 1 (.st 3 (.t 2) (.t 7))]) .ret)))
theorem tz45_g : tz_Good 45 tz45 := ⟨by kernel_rfl, by kernel_rfl⟩
def tz48 : XF := .mk 12 (.cell 2 true 2) (.seq (g_ 2 [e_ 0 1 (.box 45 (.t 0)), e_ 1 2 (.al 52 [(.int 1 (.ofNat 0)), (.int 2 (.ofNat 0))])]) (.seq (.seq (g_ 4 [p_ 0 3 (f_ 2 1), r_ 1 4 (l_ 3), p_ 2 5 (k_ 4), p_ 3 6 (.bin 3 4 (.t 5) (i_ 0))]) (.cond (.t 6) (.seq (g_ 2 [p_ 0 7 (.bld [(.int 1 (.ofNat 0)), (.int 2 (.ofNat 0))] [] []), e0_ 1 (.st 2 (.t 2) (.t 7))]) .ret) .skip)) (.seq (g_ 5 [p_ 0 8 (f_ 2 1), r_ 1 9 (l_ 8), p_ 2 10 (.ixs 2 (.t 9) (i_ 0)), r_ 3 11 (.ld true 2 (.t 10)), e0_ 4 (.st 2 (.t 2) (.t 11))]) .ret)))
theorem tz48_g : tz_Good 48 tz48 := ⟨by kernel_rfl, by kernel_rfl⟩
def tz49 : XF := .mk 13 (.one 2) (.seq (g_ 1 [p_ 0 2 (.mv (.c (.bool false)))]) (.seq (g_ 11 [p_ 0 3 (m_ 0), c_ 1 4 76 [.t 3], p_ 2 5 (.un 0 (.t 4)), p_ 3 6 (m_ 5), pg_ 4 7 6 true (m_ 0), pg_ 5 8 6 true (n_ 7), pg_ 6 9 6 true (f_ 8 8), rg_ 7 10 6 true (l_ 9), pg_ 8 11 6 true (.un 0 (.t 10)), p_ 9 12 (.pick (.t 6) (.t 11) (.c (.bool false))), p_ 10 2 (m_ 12)]) .ret))
theorem tz49_g : tz_Good 49 tz49 := ⟨by kernel_rfl, by kernel_rfl⟩
def tz50 : XF := .mk 36 (.one 2) (.seq (g_ 2 [e_ 0 1 (.box 70 (.t 0)), p_ 1 2 (.mv (.c (.bool false)))]) (.seq (g_ 34 [p_ 0 3 (f_ 19 1), r_ 1 4 (l_ 3), c_ 2 5 80 [.t 4], p_ 3 6 (m_ 5), pg_ 4 7 6 true (f_ 20 1), pg_ 5 8 6 true (f_ 1 7), rg_ 6 9 6 true (l_ 8), pg_ 7 10 6 true (.len 0 (.t 9)), pg_ 8 11 6 true (.bin 3 1 (.t 10) (i_ 2000)), p_ 9 12 (.pick (.t 6) (.t 11) (.c (.bool false))), p_ 10 13 (m_ 12), pg_ 11 14 13 true (f_ 22 1), pg_ 12 15 13 true (f_ 2 14), rg_ 13 16 13 true (l_ 15), pg_ 14 17 13 true (k_ 16), pg_ 15 18 13 true (.bin 3 1 (.t 17) (i_ 40)), p_ 16 19 (.pick (.t 13) (.t 18) (.c (.bool false))), p_ 17 20 (m_ 19), pg_ 18 21 20 true (f_ 28 1), rg_ 19 22 20 true (l_ 21), pg_ 20 23 20 true (k_ 22), pg_ 21 24 20 true (.bin 3 1 (.t 23) (i_ 40)), p_ 22 25 (.pick (.t 20) (.t 24) (.c (.bool false))), p_ 23 26 (m_ 25), pg_ 24 27 26 true (f_ 29 1), rg_ 25 28 26 true (l_ 27), cg_ 26 29 26 true 81 [.t 28], p_ 27 30 (.pick (.t 26) (.t 29) (.c (.bool false))), p_ 28 31 (m_ 30), pg_ 29 32 31 true (f_ 30 1), rg_ 30 33 31 true (l_ 32), cg_ 31 34 31 true 81 [.t 33], p_ 32 35 (.pick (.t 31) (.t 34) (.c (.bool false))), p_ 33 2 (m_ 35)]) .ret))
theorem tz50_g : tz_Good 50 tz50 := ⟨by kernel_rfl, by kernel_rfl⟩
def tz51 : XF := .mk 8 (.one 2) (.seq (g_ 1 [p_ 0 2 (.mv (.c .nilS))]) (.seq (.seq (g_ 2 [p_ 0 3 (m_ 0), p_ 1 4 (.isn false 2 (.t 3))]) (.cond (.t 4) (.seq (g_ 1 [p_ 0 2 (.mv (.c .nilS))]) .ret) .skip)) (.seq (g_ 4 [e_ 0 5 (.bsl 52 2 0 [] [] []), p_ 1 6 (m_ 0), e_ 2 7 (.app 52 2 4 (.t 5) (.t 6)), p_ 3 2 (m_ 7)]) .ret)))
theorem tz51_g : tz_Good 51 tz51 := ⟨by kernel_rfl, by kernel_rfl⟩
def tz52 : XF := .mk 44 (.one 4) (.seq (g_ 2 [e_ 0 3 (.box 88 (.t 1)), p_ 1 4 (.mv (i_ 0))]) (.seq (.block 2 (.seq (h_ 14 [p_ 0 6 (m_ 0), c_ 1 7 82 [.t 6], p_ 2 8 (.un 0 (.t 7)), p_ 3 9 (m_ 8), rg_ 4 10 9 false (.ld true 18 (.t 3)), pg_ 5 11 9 false (m_ 0), pg_ 6 12 9 false (n_ 11), pg_ 7 13 9 false (f_ 0 12), pg_ 8 14 9 false (f_ 0 13), rg_ 9 15 9 false (l_ 14), cg_ 10 16 9 false 83 [(.t 10), (.t 15)], pg_ 11 17 9 false (.un 0 (.t 16)), p_ 12 18 (.pick (.t 9) (.c (.bool true)) (.t 17)), p_ 13 5 (m_ 18)]) (.cond (.t 5) (.seq (g_ 1 [p_ 0 4 (.mv (i_ 1))]) .ret) (.seq (g_ 5 [p_ 0 20 (m_ 0), p_ 1 21 (n_ 20), p_ 2 22 (f_ 8 21), r_ 3 23 (l_ 22), p_ 4 19 (m_ 23)]) (.cond (.t 19) (.seq (g_ 1 [p_ 0 4 (.mv (i_ 17))]) .ret) (.seq (g_ 7 [p_ 0 25 (m_ 0), p_ 1 26 (n_ 25), p_ 2 27 (f_ 5 26), r_ 3 28 (l_ 27), p_ 4 29 (k_ 28), p_ 5 30 (.bin 3 3 (.t 29) (i_ 400)), p_ 6 24 (m_ 30)]) (.cond (.t 24) (.seq (g_ 1 [p_ 0 4 (.mv (i_ 11))]) .ret) .skip))))))) (.seq (h_ 12 [p_ 0 31 (m_ 0), p_ 1 32 (m_ 0), p_ 2 33 (n_ 32), p_ 3 34 (f_ 5 33), r_ 4 35 (l_ 34), r_ 5 36 (.ld true 18 (.t 3)), c_ 6 37 84 [.t 36], a_ 4 35 (l_ 34), e_ 7 38 (.bsl 88 18 1 [(.int 1 (.ofNat 0)), (.int 1 (.ofNat 0)), (.int 2 (.ofNat 0)), (.int 3 (.ofNat 0)), (.int 1 (.ofNat 0)), (.int 1 (.ofNat 0)), (.int 1 (.ofNat 0)), (.int 1 (.ofNat 0)), (.int 1 (.ofNat 0)), (.int 1 (.ofNat 0)), (.int 1 (.ofNat 0)), (.int 3 (.ofNat 0)), .nilS, (.int 1 (.ofNat 0)), (.str []), .nilS, (.int 1 (.ofNat 0)), (.int 2 (.ofNat 0))] [(0, 18)] [.t 37]), a_ 4 35 (l_ 34), e_ 8 39 (.app 88 18 104 (.t 35) (.t 38)), p_ 9 40 (n_ 31), p_ 10 41 (f_ 5 40), e0_ 11 (.st 1 (.t 41) (.t 39))]) (.seq (g_ 2 [p_ 0 42 (m_ 0), c_ 1 43 85 [.t 42]]) (.seq (g_ 1 [p_ 0 4 (.mv (i_ 0))]) .ret)))))
theorem tz52_g : tz_Good 52 tz52 := ⟨by kernel_rfl, by kernel_rfl⟩
def tz60 : XF := .mk 96 .none (.seq (g_ 1 [e_ 0 6 (.box 45 (.t 2))]) (.seq (g_ 6 [p_ 0 9 (m_ 0), p_ 1 10 (f_ 1 6), r_ 2 11 (l_ 10), p_ 3 12 (n_ 9), p_ 4 13 (f_ 15 12), e0_ 5 (.st 1 (.t 13) (.t 11))]) (.seq (.seq (h_ 7 [r_ 0 14 (.ld true 3 (.t 6)), p_ 1 15 (m_ 0), p_ 2 16 (n_ 15), p_ 3 17 (f_ 8 16), r_ 4 18 (.ld true 2 (.t 17)), c_ 5 19 74 [(.t 14), (.t 18)], p_ 6 20 (.bin 3 0 (.t 19) (i_ 0))]) (.cond (.t 20) (.seq (g_ 12 [p_ 0 21 (m_ 0), p_ 1 22 (m_ 0), p_ 2 23 (m_ 0), c_ 3 24 14 [.t 23], p_ 4 25 (m_ 0), c_ 5 26 13 [.t 25], p_ 6 27 (n_ 21), p_ 7 28 (f_ 18 27), e0_ 8 (.st 1 (.t 28) (.t 24)), p_ 9 29 (n_ 22), p_ 10 30 (f_ 20 29), e0_ 11 (.st 1 (.t 30) (.t 26))]) (.seq (g_ 5 [p_ 0 31 (m_ 0), p_ 1 32 (.bld [(.int 1 (.ofNat 0)), (.int 3 (.ofNat 0)), .nilS, .nilP, .nilP, .nilP, (o_ 0)] [] []), p_ 2 33 (n_ 31), p_ 3 34 (f_ 0 33), e0_ 4 (.st 7 (.t 34) (.t 32))]) .ret)) .skip)) (.seq (h_ 15 [p_ 0 35 (m_ 0), r_ 1 36 (.ld true 3 (.t 6)), r_ 3 38 (.ld true 3 (.t 6)), p_ 4 39 (m_ 0), p_ 5 40 (n_ 39), p_ 6 41 (f_ 8 40), r_ 7 42 (.ld true 2 (.t 41)), p_ 8 43 (m_ 3), c_ 2 37 45 [.t 36], a_ 3 38 (.ld true 3 (.t 6)), a_ 7 42 (.ld true 2 (.t 41)), c_ 9 44 105 [(.t 38), (.t 42), (.t 43)], c_ 10 45 106 [], p_ 11 46 (.bld [(.int 1 (.ofNat 0)), (.int 3 (.ofNat 0)), .nilS, .nilP, .nilP, .nilP, (o_ 0)] [(0, 3), (3, 1), (4, 1)] [(.t 37), (.t 44), (.t 45)]), p_ 12 47 (n_ 35), p_ 13 48 (f_ 0 47), e0_ 14 (.st 7 (.t 48) (.t 46))]) (.seq (h_ 12 [p_ 0 49 (m_ 0), p_ 1 50 (m_ 0), p_ 2 51 (n_ 50), p_ 3 52 (f_ 19 51), r_ 4 53 (l_ 52), r_ 5 54 (.ld true 3 (.t 6)), c_ 6 55 45 [.t 54], a_ 4 53 (l_ 52), e_ 7 56 (.bsl 45 3 1 [(.int 1 (.ofNat 0)), (.int 3 (.ofNat 0)), .nilS] [(0, 3)] [.t 55]), a_ 4 53 (l_ 52), e_ 8 57 (.app 45 3 32 (.t 53) (.t 56)), p_ 9 58 (n_ 49), p_ 10 59 (f_ 19 58), e0_ 11 (.st 1 (.t 59) (.t 57))]) (.seq (g_ 3 [p_ 0 60 (.mkf 107 [.t 6]), e_ 1 8 (.al 168 [.nilF]), e0_ 2 (.st 1 (.t 8) (.t 60))]) (.seq (h_ 20 [p_ 0 61 (m_ 0), p_ 1 62 (m_ 0), p_ 2 63 (m_ 0), p_ 3 64 (n_ 63), p_ 4 65 (f_ 11 64), r_ 5 66 (l_ 65), r_ 6 67 (l_ 8), p_ 8 69 (m_ 0), p_ 9 70 (n_ 69), p_ 10 71 (f_ 13 70), r_ 11 72 (l_ 71), r_ 12 73 (l_ 8), c_ 7 68 108 [(.t 66), (.t 67)], a_ 11 72 (l_ 71), a_ 12 73 (l_ 8), c_ 13 74 108 [(.t 72), (.t 73)], p_ 14 75 (n_ 61), p_ 15 76 (f_ 11 75), e0_ 16 (.st 1 (.t 76) (.t 68)), p_ 17 77 (n_ 62), p_ 18 78 (f_ 13 77), e0_ 19 (.st 1 (.t 78) (.t 74))]) (.seq (g_ 10 [p_ 0 79 (m_ 0), p_ 1 80 (m_ 0), p_ 2 81 (n_ 80), p_ 3 82 (f_ 12 81), r_ 4 83 (l_ 82), p_ 5 84 (.mkf 109 [.t 8]), c_ 6 85 108 [(.t 83), (.t 84)], p_ 7 86 (n_ 79), p_ 8 87 (f_ 12 86), e0_ 9 (.st 1 (.t 87) (.t 85))]) (g_ 10 [p_ 0 88 (m_ 0), p_ 1 89 (m_ 0), p_ 2 90 (m_ 1), p_ 3 91 (.bin 0 0 (.t 90) (i_ 2)), p_ 4 92 (n_ 88), p_ 5 93 (f_ 14 92), e0_ 6 (.st 1 (.t 93) (.c (.bool false))), p_ 7 94 (n_ 89), p_ 8 95 (f_ 17 94), e0_ 9 (.st 1 (.t 95) (.t 91))])))))))))
theorem tz60_g : tz_Good 60 tz60 := ⟨by kernel_rfl, by kernel_rfl⟩
def tz65 : XF := .mk 32 (.cell 2 true 10) (.seq (g_ 2 [e_ 0 1 (.box 61 (.t 0)), e_ 1 2 (.al 83 [(.int 1 (.ofNat 0)), (.int 2 (.ofNat 0)), (.int 3 (.ofNat 0)), (.int 1 (.ofNat 0)), (.int 1 (.ofNat 0)), (.int 1 (.ofNat 0)), (.int 1 (.ofNat 0)), (.int 1 (.ofNat 0)), (.int 1 (.ofNat 0)), (.int 1 (.ofNat 0))])]) (.seq (.reg true 10 (.split 2 8 (.leaf [p_ 0 5 (f_ 0 1), r_ 1 6 (.ld true 2 (.t 5)), p_ 3 8 (f_ 2 1), r_ 4 9 (l_ 8), p_ 5 10 (f_ 3 1), r_ 6 11 (l_ 10), c_ 2 7 26 [.t 6], a_ 4 9 (l_ 8), a_ 6 11 (l_ 10), p_ 7 12 (.bld [(.int 1 (.ofNat 0)), (.int 2 (.ofNat 0)), (.int 3 (.ofNat 0)), (.int 1 (.ofNat 0)), (.int 1 (.ofNat 0)), (.int 1 (.ofNat 0)), (.int 1 (.ofNat 0)), (.int 1 (.ofNat 0)), (.int 1 (.ofNat 0)), (.int 1 (.ofNat 0))] [(0, 2), (2, 1), (3, 1)] [(.t 7), (.t 9), (.t 11)]), e_ 8 3 (.al 83 [(.int 1 (.ofNat 0)), (.int 2 (.ofNat 0)), (.int 3 (.ofNat 0)), (.int 1 (.ofNat 0)), (.int 1 (.ofNat 0)), (.int 1 (.ofNat 0)), (.int 1 (.ofNat 0)), (.int 1 (.ofNat 0)), (.int 1 (.ofNat 0)), (.int 1 (.ofNat 0))]), a_ 4 9 (l_ 8), a_ 6 11 (l_ 10), e0_ 9 (.st 10 (.t 3) (.t 12))]) (.leaf [p_ 0 5 (f_ 0 1), r_ 1 6 (.ld true 2 (.t 5)), p_ 3 8 (f_ 2 1), r_ 4 9 (l_ 8), p_ 5 10 (f_ 3 1), r_ 6 11 (l_ 10), e_ 8 3 (.al 83 [(.int 1 (.ofNat 0)), (.int 2 (.ofNat 0)), (.int 3 (.ofNat 0)), (.int 1 (.ofNat 0)), (.int 1 (.ofNat 0)), (.int 1 (.ofNat 0)), (.int 1 (.ofNat 0)), (.int 1 (.ofNat 0)), (.int 1 (.ofNat 0)), (.int 1 (.ofNat 0))]), a_ 1 6 (.ld true 2 (.t 5)), a_ 4 9 (l_ 8), a_ 6 11 (l_ 10), c_ 2 7 26 [.t 6], a_ 4 9 (l_ 8), a_ 6 11 (l_ 10), p_ 7 12 (.bld [(.int 1 (.ofNat 0)), (.int 2 (.ofNat 0)), (.int 3 (.ofNat 0)), (.int 1 (.ofNat 0)), (.int 1 (.ofNat 0)), (.int 1 (.ofNat 0)), (.int 1 (.ofNat 0)), (.int 1 (.ofNat 0)), (.int 1 (.ofNat 0)), (.int 1 (.ofNat 0))] [(0, 2), (2, 1), (3, 1)] [(.t 7), (.t 9), (.t 11)]), e0_ 9 (.st 10 (.t 3) (.t 12))]))) (.seq (.seq (g_ 1 [p_ 0 4 (.mv (i_ 0))]) (.block 2 (.loop [1, 2, 3, 4, 13, 14, 15, 16, 17, 18, 19, 20, 21, 22, 23, 24, 25, 26, 27, 28, 29, 30, 31] (.seq (.seq (g_ 2 [p_ 0 13 (m_ 4), p_ 1 14 (.bin 3 0 (.t 13) (i_ 3))]) (.cond (.t 14) .skip (.exit 2))) (.seq (.block 3 (h_ 15 [p_ 0 17 (m_ 4), p_ 1 18 (m_ 4), p_ 2 19 (f_ 4 1), p_ 3 20 (.ixa 3 2 (.t 19) (.t 18)), p_ 4 21 (f_ 0 20), r_ 5 22 (l_ 21), p_ 6 23 (m_ 4), p_ 7 24 (f_ 4 1), p_ 8 25 (.ixa 3 2 (.t 24) (.t 23)), p_ 9 26 (f_ 1 25), r_ 10 27 (l_ 26), p_ 11 28 (.bld [(.int 1 (.ofNat 0)), (.int 1 (.ofNat 0))] [(0, 1), (1, 1)] [(.t 22), (.t 27)]), p_ 12 29 (f_ 4 3), p_ 13 30 (.ixa 3 2 (.t 29) (.t 17)), e0_ 14 (.st 2 (.t 30) (.t 28))])) (g_ 3 [p_ 0 15 (m_ 4), p_ 1 16 (.bin 0 0 (.t 15) (i_ 1)), p_ 2 4 (m_ 16)])))))) (.seq (g_ 2 [r_ 0 31 (.ld true 10 (.t 3)), e0_ 1 (.st 10 (.t 2) (.t 31))]) .ret))))
theorem tz65_g : tz_Good 65 tz65 := ⟨by kernel_rfl, by kernel_rfl⟩
def tz67 : XF := .mk 8 (.cell 2 true 2) (.seq (g_ 2 [e_ 0 1 (.box 64 (.t 0)), e_ 1 2 (.al 85 [(.int 1 (.ofNat 0)), (.str [])])]) (.seq (g_ 6 [p_ 0 3 (f_ 0 1), r_ 1 4 (l_ 3), p_ 2 5 (f_ 1 1), r_ 3 6 (l_ 5), p_ 4 7 (.bld [(.int 1 (.ofNat 0)), (.str [])] [(0, 1), (1, 1)] [(.t 4), (.t 6)]), e0_ 5 (.st 2 (.t 2) (.t 7))]) .ret))
theorem tz67_g : tz_Good 67 tz67 := ⟨by kernel_rfl, by kernel_rfl⟩
def tz68 : XF := .mk 11 (.cell 2 true 3) (.seq (g_ 2 [e_ 0 1 (.box 67 (.t 0)), e_ 1 2 (.al 45 [(.int 1 (.ofNat 0)), (.int 3 (.ofNat 0)), .nilS])]) (.seq (h_ 9 [p_ 0 3 (f_ 0 1), r_ 1 4 (l_ 3), p_ 2 5 (f_ 1 1), r_ 3 6 (l_ 5), p_ 4 7 (f_ 2 1), r_ 5 8 (l_ 7), c_ 6 9 69 [.t 8], a_ 1 4 (l_ 3), a_ 3 6 (l_ 5), p_ 7 10 (.bld [(.int 1 (.ofNat 0)), (.int 3 (.ofNat 0)), .nilS] [(0, 1), (1, 1), (2, 1)] [(.t 4), (.t 6), (.t 9)]), e0_ 8 (.st 3 (.t 2) (.t 10))]) .ret))
theorem tz68_g : tz_Good 68 tz68 := ⟨by kernel_rfl, by kernel_rfl⟩
def tz71 : XF := .mk 26 (.one 4) (.seq (g_ 1 [p_ 0 4 (.mv (.c (.bool false)))]) (.seq (.seq (g_ 5 [p_ 0 6 (m_ 0), p_ 1 7 (k_ 6), p_ 2 8 (m_ 1), p_ 3 9 (k_ 8), p_ 4 10 (.bin 3 5 (.t 7) (.t 9))]) (.cond (.t 10) (.seq (g_ 1 [p_ 0 4 (.mv (.c (.bool false)))]) .ret) .skip)) (.seq (.seq (g_ 3 [p_ 0 11 (m_ 0), p_ 1 12 (k_ 11), p_ 2 13 (.mv (i_ 0))]) (.block 2 (.loop [0, 1, 4, 5, 12, 13, 14, 15, 16, 17, 18, 19, 20, 21, 22, 23, 24, 25] (.seq (g_ 1 [p_ 0 14 (.bin 3 0 (.t 13) (.t 12))]) (.seq (.cond (.t 14) .skip (.exit 2)) (.seq (.block 3 (.seq (g_ 2 [p_ 0 15 (m_ 13), p_ 1 5 (m_ 15)]) (.seq (h_ 9 [p_ 0 16 (m_ 0), p_ 1 17 (m_ 5), p_ 2 18 (.ixs 2 (.t 16) (.t 17)), r_ 3 19 (.ld true 2 (.t 18)), p_ 4 20 (m_ 1), p_ 5 21 (m_ 5), p_ 6 22 (.ixs 2 (.t 20) (.t 21)), r_ 7 23 (.ld true 2 (.t 22)), p_ 8 24 (.eqs true 2 (.st [(0, 1, false, .int), (1, 1, false, .int)]) (.t 19) (.t 23))]) (.cond (.t 24) (.seq (g_ 1 [p_ 0 4 (.mv (.c (.bool false)))]) .ret) .skip)))) (g_ 2 [p_ 0 25 (.bin 0 0 (.t 13) (i_ 1)), p_ 1 13 (m_ 25)]))))))) (.seq (g_ 1 [p_ 0 4 (.mv (.c (.bool true)))]) .ret))))
theorem tz71_g : tz_Good 71 tz71 := ⟨by kernel_rfl, by kernel_rfl⟩
def tz72 : XF := .mk 16 (.ct 4 true 3 5) (.seq (g_ 2 [e_ 0 4 (.al 45 [(.int 1 (.ofNat 0)), (.int 3 (.ofNat 0)), .nilS]), p_ 1 5 (.mv (i_ 0))]) (.seq (g_ 6 [p_ 0 7 (m_ 0), p_ 1 8 (m_ 1), c_ 2 9 51 [.t 8], p_ 3 10 (.bld [(.int 1 (.ofNat 0)), (.int 3 (.ofNat 0)), .nilS] [(0, 1), (1, 1), (2, 1)] [(.t 7), (.c (.int 3 (.ofNat 1))), (.t 9)]), e_ 4 6 (.al 45 [(.int 1 (.ofNat 0)), (.int 3 (.ofNat 0)), .nilS]), e0_ 5 (.st 3 (.t 6) (.t 10))]) (.seq (.seq (g_ 3 [r_ 0 11 (.ld true 3 (.t 6)), c_ 1 12 122 [.t 11], p_ 2 13 (.un 0 (.t 12))]) (.cond (.t 13) (.seq (g_ 3 [p_ 0 14 (.bld [(.int 1 (.ofNat 0)), (.int 3 (.ofNat 0)), .nilS] [] []), e0_ 1 (.st 3 (.t 4) (.t 14)), p_ 2 5 (.mv (i_ 1))]) .ret) .skip)) (.seq (g_ 3 [r_ 0 15 (.ld true 3 (.t 6)), e0_ 1 (.st 3 (.t 4) (.t 15)), p_ 2 5 (.mv (i_ 0))]) .ret))))
theorem tz72_g : tz_Good 72 tz72 := ⟨by kernel_rfl, by kernel_rfl⟩
def tz73 : XF := .mk 11 (.one 2) (.seq (g_ 2 [e_ 0 1 (.box 52 (.t 0)), p_ 1 2 (.mv (.c (.bool false)))]) (.seq (g_ 9 [p_ 0 3 (f_ 0 1), r_ 1 4 (l_ 3), p_ 2 5 (.bin 3 0 (.t 4) (.c (.int 1 (.ofNat 16)))), p_ 3 6 (m_ 5), pg_ 4 7 6 true (f_ 1 1), rg_ 5 8 6 true (l_ 7), pg_ 6 9 6 true (.bin 3 2 (.t 8) (.c (.int 2 (.ofNat 0)))), p_ 7 10 (.pick (.t 6) (.t 9) (.c (.bool false))), p_ 8 2 (m_ 10)]) .ret))
theorem tz73_g : tz_Good 73 tz73 := ⟨by kernel_rfl, by kernel_rfl⟩
def tz74 : XF := .mk 9 (.one 4) (.seq (g_ 3 [e_ 0 2 (.box 45 (.t 0)), e_ 1 3 (.box 52 (.t 1)), p_ 2 4 (.mv (i_ 0))]) (.seq (g_ 5 [p_ 0 5 (f_ 2 2), r_ 1 6 (l_ 5), r_ 2 7 (.ld true 2 (.t 3)), c_ 3 8 86 [(.t 6), (.t 7)], p_ 4 4 (m_ 8)]) .ret))
theorem tz74_g : tz_Good 74 tz74 := ⟨by kernel_rfl, by kernel_rfl⟩
def tz76 : XF := .mk 12 (.one 2) (.seq (g_ 1 [p_ 0 2 (.mv (.c (.bool false)))]) (.seq (g_ 10 [p_ 0 3 (m_ 0), p_ 1 4 (.isn false 1 (.t 3)), p_ 2 5 (m_ 4), pg_ 3 6 5 false (m_ 0), pg_ 4 7 5 false (n_ 6), pg_ 5 8 5 false (f_ 9 7), rg_ 6 9 5 false (l_ 8), pg_ 7 10 5 false (.isn false 3 (.t 9)), p_ 8 11 (.pick (.t 5) (.c (.bool true)) (.t 10)), p_ 9 2 (m_ 11)]) .ret))
theorem tz76_g : tz_Good 76 tz76 := ⟨by kernel_rfl, by kernel_rfl⟩
def tz77 : XF := .mk 27 (.one 2) (.seq (g_ 1 [p_ 0 2 (.mv (.c .nilS))]) (.seq (g_ 4 [p_ 0 6 (m_ 0), p_ 1 7 (k_ 6), e_ 2 8 (.mks 88 18 104 [(.int 1 (.ofNat 0)), (.int 1 (.ofNat 0)), (.int 2 (.ofNat 0)), (.int 3 (.ofNat 0)), (.int 1 (.ofNat 0)), (.int 1 (.ofNat 0)), (.int 1 (.ofNat 0)), (.int 1 (.ofNat 0)), (.int 1 (.ofNat 0)), (.int 1 (.ofNat 0)), (.int 1 (.ofNat 0)), (.int 3 (.ofNat 0)), .nilS, (.int 1 (.ofNat 0)), (.str []), .nilS, (.int 1 (.ofNat 0)), (.int 2 (.ofNat 0))] (i_ 0) (.t 7)), p_ 3 3 (m_ 8)]) (.seq (.seq (g_ 3 [p_ 0 9 (m_ 0), p_ 1 10 (k_ 9), p_ 2 11 (.mv (i_ 0))]) (.block 2 (.loop [2, 3, 5, 9, 10, 11, 12, 13, 14, 15, 16, 17, 18, 19, 20, 21, 22, 23, 24, 25, 26] (.seq (g_ 1 [p_ 0 12 (.bin 3 0 (.t 11) (.t 10))]) (.seq (.cond (.t 12) .skip (.exit 2)) (.seq (.block 3 (.seq (g_ 4 [p_ 0 13 (.ixs 18 (.t 9) (.t 11)), r_ 1 14 (.ld true 18 (.t 13)), e_ 2 5 (.al 88 [(.int 1 (.ofNat 0)), (.int 1 (.ofNat 0)), (.int 2 (.ofNat 0)), (.int 3 (.ofNat 0)), (.int 1 (.ofNat 0)), (.int 1 (.ofNat 0)), (.int 1 (.ofNat 0)), (.int 1 (.ofNat 0)), (.int 1 (.ofNat 0)), (.int 1 (.ofNat 0)), (.int 1 (.ofNat 0)), (.int 3 (.ofNat 0)), .nilS, (.int 1 (.ofNat 0)), (.str []), .nilS, (.int 1 (.ofNat 0)), (.int 2 (.ofNat 0))]), e0_ 3 (.st 18 (.t 5) (.t 14))]) (g_ 6 [p_ 0 15 (m_ 3), r_ 1 16 (.ld true 18 (.t 5)), c_ 2 17 84 [.t 16], e_ 3 18 (.bsl 88 18 1 [(.int 1 (.ofNat 0)), (.int 1 (.ofNat 0)), (.int 2 (.ofNat 0)), (.int 3 (.ofNat 0)), (.int 1 (.ofNat 0)), (.int 1 (.ofNat 0)), (.int 1 (.ofNat 0)), (.int 1 (.ofNat 0)), (.int 1 (.ofNat 0)), (.int 1 (.ofNat 0)), (.int 1 (.ofNat 0)), (.int 3 (.ofNat 0)), .nilS, (.int 1 (.ofNat 0)), (.str []), .nilS, (.int 1 (.ofNat 0)), (.int 2 (.ofNat 0))] [(0, 18)] [.t 17]), e_ 4 19 (.app 88 18 104 (.t 15) (.t 18)), p_ 5 3 (m_ 19)]))) (g_ 2 [p_ 0 20 (.bin 0 0 (.t 11) (i_ 1)), p_ 1 11 (m_ 20)]))))))) (.seq (g_ 7 [p_ 0 21 (m_ 3), p_ 1 22 (m_ 3), p_ 2 23 (k_ 22), p_ 3 24 (m_ 3), p_ 4 25 (k_ 24), r_ 5 26 (.sls 18 (.t 21) none (some (.t 23)) (some (.t 25))), p_ 6 2 (m_ 26)]) .ret))))
theorem tz77_g : tz_Good 77 tz77 := ⟨by kernel_rfl, by kernel_rfl⟩
def tz82 : XF := .mk 18 (.one 2) (.seq (g_ 1 [p_ 0 2 (.mv (.c (.bool false)))]) (.seq (h_ 16 [p_ 0 3 (m_ 0), c_ 1 4 76 [.t 3], p_ 2 5 (.un 0 (.t 4)), p_ 3 6 (m_ 5), pg_ 4 7 6 true (m_ 0), pg_ 5 8 6 true (n_ 7), pg_ 6 9 6 true (f_ 3 8), rg_ 7 10 6 true (.ld true 2 (.t 9)), pg_ 8 11 6 true (m_ 0), pg_ 9 12 6 true (n_ 11), pg_ 10 13 6 true (f_ 0 12), rg_ 11 14 6 true (.ld true 3 (.t 13)), cg_ 12 15 6 true 48 [.t 14], ag_ 7 10 6 true (.ld true 2 (.t 9)), pg_ 13 16 6 true (.eqs false 2 (.st [(0, 1, false, .int), (1, 1, false, .int)]) (.t 10) (.t 15)), p_ 14 17 (.pick (.t 6) (.t 16) (.c (.bool false))), p_ 15 2 (m_ 17)]) .ret))
theorem tz82_g : tz_Good 82 tz82 := ⟨by kernel_rfl, by kernel_rfl⟩
def tz83 : XF := .mk 111 (.one 4) (.seq (g_ 2 [e_ 0 2 (.box 88 (.t 0)), p_ 1 4 (.mv (.c (.bool false)))]) (.seq (g_ 3 [p_ 0 7 (.bld [(.int 1 (.ofNat 0)), (.str [])] [] []), e_ 1 5 (.al 85 [(.int 1 (.ofNat 0)), (.str [])]), e0_ 2 (.st 2 (.t 5) (.t 7))]) (.seq (.seq (g_ 2 [p_ 0 8 (f_ 0 2), r_ 1 9 (l_ 8)]) (.block 2 (.seq (g_ 2 [p_ 0 11 (.bin 3 4 (.t 9) (.c (.int 1 (.ofNat 0)))), p_ 1 10 (m_ 11)]) (.cond (.t 10) (.seq (g_ 16 [r_ 0 12 (.ld true 18 (.t 2)), p_ 1 13 (m_ 1), c_ 2 14 124 [(.t 12), (.t 13)], p_ 3 15 (m_ 14), pg_ 4 16 15 true (f_ 13 2), rg_ 5 17 15 true (.ld true 2 (.t 16)), rg_ 6 18 15 true (.ld true 2 (.t 5)), pg_ 7 19 15 true (.eqs false 2 (.st [(0, 1, false, .int), (1, 1, false, .str)]) (.t 17) (.t 18)), p_ 8 20 (.pick (.t 15) (.t 19) (.c (.bool false))), p_ 9 21 (m_ 20), pg_ 10 22 21 true (f_ 15 2), rg_ 11 23 21 true (l_ 22), pg_ 12 24 21 true (k_ 23), pg_ 13 25 21 true (.bin 3 4 (.t 24) (i_ 0)), p_ 14 26 (.pick (.t 21) (.t 25) (.c (.bool false))), p_ 15 4 (m_ 26)]) .ret) (.seq (g_ 2 [p_ 0 28 (.bin 3 4 (.t 9) (.c (.int 1 (.ofNat 3)))), p_ 1 27 (m_ 28)]) (.cond (.t 27) (.seq (g_ 25 [r_ 0 29 (.ld true 18 (.t 2)), p_ 1 30 (m_ 1), c_ 2 31 124 [(.t 29), (.t 30)], p_ 3 32 (m_ 31), pg_ 4 33 32 true (f_ 13 2), rg_ 5 34 32 true (.ld true 2 (.t 33)), cg_ 6 35 32 true 125 [.t 34], p_ 7 36 (.pick (.t 32) (.t 35) (.c (.bool false))), p_ 8 37 (m_ 36), pg_ 9 38 37 true (f_ 13 2), pg_ 10 39 37 true (f_ 0 38), rg_ 11 40 37 true (l_ 39), pg_ 12 41 37 true (.bin 3 5 (.t 40) (.c (.int 1 (.ofNat 4)))), p_ 13 42 (.pick (.t 37) (.t 41) (.c (.bool false))), p_ 14 43 (m_ 42), pg_ 15 44 43 true (f_ 13 2), pg_ 16 45 43 true (f_ 0 44), rg_ 17 46 43 true (l_ 45), pg_ 18 47 43 true (.bin 3 5 (.t 46) (.c (.int 1 (.ofNat 3)))), p_ 19 48 (.pick (.t 43) (.t 47) (.c (.bool false))), p_ 20 49 (m_ 48), rg_ 21 50 49 true (.ld true 18 (.t 2)), cg_ 22 51 49 true 126 [.t 50], p_ 23 52 (.pick (.t 49) (.t 51) (.c (.bool false))), p_ 24 4 (m_ 52)]) .ret) (.seq (g_ 2 [p_ 0 54 (.bin 3 4 (.t 9) (.c (.int 1 (.ofNat 1)))), p_ 1 53 (m_ 54)]) (.cond (.t 53) (.seq (g_ 4 [p_ 0 55 (f_ 1 2), r_ 1 56 (.ld true 10 (.t 55)), e_ 2 6 (.al 83 [(.int 1 (.ofNat 0)), (.int 2 (.ofNat 0)), (.int 3 (.ofNat 0)), (.int 1 (.ofNat 0)), (.int 1 (.ofNat 0)), (.int 1 (.ofNat 0)), (.int 1 (.ofNat 0)), (.int 1 (.ofNat 0)), (.int 1 (.ofNat 0)), (.int 1 (.ofNat 0))]), e0_ 3 (.st 10 (.t 6) (.t 56))]) (.seq (g_ 34 [r_ 0 57 (.ld true 10 (.t 6)), c_ 1 58 127 [.t 57], p_ 2 59 (m_ 58), pg_ 3 60 59 true (f_ 3 6), rg_ 4 61 59 true (l_ 60), pg_ 5 62 59 true (.bin 3 2 (.t 61) (.c (.int 1 (.ofNat 0)))), p_ 6 63 (.pick (.t 59) (.t 62) (.c (.bool false))), p_ 7 64 (m_ 63), pg_ 8 65 64 true (f_ 3 6), rg_ 9 66 64 true (l_ 65), pg_ 10 67 64 true (.bin 0 1 (.t 66) (.c (.int 1 (.ofNat 1)))), pg_ 11 68 64 true (f_ 4 6), pg_ 12 69 64 true (.ixa 3 2 (.t 68) (.t 67)), pg_ 13 70 64 true (f_ 0 69), rg_ 14 71 64 true (l_ 70), pg_ 15 72 64 true (m_ 1), pg_ 16 73 64 true (.bin 3 4 (.t 71) (.t 72)), p_ 17 74 (.pick (.t 64) (.t 73) (.c (.bool false))), p_ 18 75 (m_ 74), pg_ 19 76 75 true (f_ 13 2), rg_ 20 77 75 true (.ld true 2 (.t 76)), cg_ 21 78 75 true 125 [.t 77], p_ 22 79 (.pick (.t 75) (.t 78) (.c (.bool false))), p_ 23 80 (m_ 79), rg_ 24 81 80 true (.ld true 18 (.t 2)), cg_ 25 82 80 true 128 [.t 81], p_ 26 83 (.pick (.t 80) (.t 82) (.c (.bool false))), p_ 27 84 (m_ 83), pg_ 28 85 84 true (f_ 16 2), rg_ 29 86 84 true (.ld true 2 (.t 85)), pg_ 30 87 84 true (.bld [(.int 1 (.ofNat 0)), (.int 2 (.ofNat 0))] [] []), pg_ 31 88 84 true (.eqs false 2 (.st [(0, 1, false, .int), (1, 1, false, .int)]) (.t 86) (.t 87)), p_ 32 89 (.pick (.t 84) (.t 88) (.c (.bool false))), p_ 33 4 (m_ 89)]) .ret)) (.seq (g_ 2 [p_ 0 91 (.bin 3 4 (.t 9) (.c (.int 1 (.ofNat 2)))), p_ 1 90 (m_ 91)]) (.cond (.t 90) (.seq (g_ 20 [p_ 0 92 (f_ 16 2), r_ 1 93 (.ld true 2 (.t 92)), c_ 2 94 73 [.t 93], p_ 3 95 (m_ 94), pg_ 4 96 95 true (f_ 13 2), rg_ 5 97 95 true (.ld true 2 (.t 96)), rg_ 6 98 95 true (.ld true 2 (.t 5)), pg_ 7 99 95 true (.eqs false 2 (.st [(0, 1, false, .int), (1, 1, false, .str)]) (.t 97) (.t 98)), p_ 8 100 (.pick (.t 95) (.t 99) (.c (.bool false))), p_ 9 101 (m_ 100), pg_ 10 102 101 true (f_ 1 2), rg_ 11 103 101 true (.ld true 10 (.t 102)), pg_ 12 104 101 true (.bld [(.int 1 (.ofNat 0)), (.int 2 (.ofNat 0)), (.int 3 (.ofNat 0)), (.int 1 (.ofNat 0)), (.int 1 (.ofNat 0)), (.int 1 (.ofNat 0)), (.int 1 (.ofNat 0)), (.int 1 (.ofNat 0)), (.int 1 (.ofNat 0)), (.int 1 (.ofNat 0))] [] []), pg_ 13 105 101 true (.eqs false 4 (.st [(0, 2, true, (.st [(0, 1, false, .int), (1, 1, false, .int)])), (2, 1, false, .int), (3, 1, false, .int), (4, 6, true, (.ar [0, 2, 4] 2 true (.st [(0, 1, false, .int), (1, 1, false, .int)])))]) (.t 103) (.t 104)), p_ 14 106 (.pick (.t 101) (.t 105) (.c (.bool false))), p_ 15 107 (m_ 106), rg_ 16 108 107 true (.ld true 18 (.t 2)), cg_ 17 109 107 true 128 [.t 108], p_ 18 110 (.pick (.t 107) (.t 109) (.c (.bool false))), p_ 19 4 (m_ 110)]) .ret) .skip)))))))))) (.seq (g_ 1 [p_ 0 4 (.mv (.c (.bool false)))]) .ret))))
theorem tz83_g : tz_Good 83 tz83 := ⟨by kernel_rfl, by kernel_rfl⟩
def tz84 : XF := .mk 12 (.cell 2 true 18) (.seq (g_ 2 [e_ 0 1 (.box 88 (.t 0)), e_ 1 2 (.al 88 [(.int 1 (.ofNat 0)), (.int 1 (.ofNat 0)), (.int 2 (.ofNat 0)), (.int 3 (.ofNat 0)), (.int 1 (.ofNat 0)), (.int 1 (.ofNat 0)), (.int 1 (.ofNat 0)), (.int 1 (.ofNat 0)), (.int 1 (.ofNat 0)), (.int 1 (.ofNat 0)), (.int 1 (.ofNat 0)), (.int 3 (.ofNat 0)), .nilS, (.int 1 (.ofNat 0)), (.str []), .nilS, (.int 1 (.ofNat 0)), (.int 2 (.ofNat 0))])]) (.seq (h_ 10 [p_ 0 3 (f_ 12 1), r_ 1 4 (l_ 3), p_ 3 6 (f_ 15 1), r_ 4 7 (l_ 6), c_ 2 5 129 [.t 4], a_ 4 7 (l_ 6), p_ 6 9 (f_ 12 1), c_ 5 8 130 [.t 7], e0_ 7 (.st 1 (.t 9) (.t 5)), p_ 8 10 (f_ 15 1), e0_ 9 (.st 1 (.t 10) (.t 8))]) (.seq (g_ 2 [r_ 0 11 (.ld true 18 (.t 1)), e0_ 1 (.st 18 (.t 2) (.t 11))]) .ret)))
theorem tz84_g : tz_Good 84 tz84 := ⟨by kernel_rfl, by kernel_rfl⟩
def tz85 : XF := .mk 58 .none (.seq (h_ 14 [p_ 0 5 (m_ 0), p_ 1 6 (n_ 5), p_ 2 7 (f_ 9 6), r_ 3 8 (l_ 7), p_ 4 9 (m_ 0), p_ 5 10 (n_ 9), p_ 6 11 (f_ 3 10), r_ 7 12 (.ld true 2 (.t 11)), p_ 8 13 (m_ 0), p_ 9 14 (n_ 13), p_ 10 15 (f_ 5 14), r_ 11 16 (l_ 15), p_ 12 17 (k_ 16), e0_ 13 (.mu 2 (.st [(0, 1, false, .int), (1, 1, false, .int)]) (.t 8) (.t 12) (.t 17))]) (.seq (g_ 7 [p_ 0 18 (m_ 0), p_ 1 19 (n_ 18), p_ 2 20 (f_ 9 19), r_ 3 21 (l_ 20), r_ 4 22 (.mlen (.t 21)), e_ 5 23 (.mks 3 1 8 [(o_ 0)] (i_ 0) (.t 22)), p_ 6 2 (m_ 23)]) (.seq (.seq (g_ 5 [p_ 0 24 (m_ 0), p_ 1 25 (n_ 24), p_ 2 26 (f_ 9 25), r_ 3 27 (l_ 26), e_ 4 28 (.rng (.t 27))]) (.block 2 (.loop [0, 2, 4, 28, 29, 30, 31, 32, 33, 34, 35, 36, 37, 39, 40, 41, 42, 43, 44, 45, 46, 47, 48, 49, 50, 51, 52, 53, 54, 55, 56, 57] (.seq (g_ 2 [e_ 0 29 (.nxt (.t 28)), p_ 1 30 (.ext 0 (.t 29))]) (.seq (.cond (.t 30) .skip (.exit 2)) (.block 3 (.seq (g_ 3 [r_ 0 31 (.ent (.t 28)), p_ 1 32 (.ext 1 (.t 31)), p_ 2 4 (m_ 32)]) (g_ 5 [p_ 0 33 (m_ 2), p_ 1 34 (m_ 4), e_ 2 35 (.bsl 3 1 1 [(o_ 0)] [(0, 1)] [.t 34]), e_ 3 36 (.app 3 1 8 (.t 33) (.t 35)), p_ 4 2 (m_ 36)])))))))) (.seq (g_ 2 [p_ 0 37 (m_ 2), c_ 1 38 131 [.t 37]]) (h_ 20 [p_ 0 39 (m_ 0), p_ 1 40 (m_ 0), p_ 2 41 (n_ 40), p_ 3 42 (f_ 7 41), r_ 4 43 (l_ 42), p_ 5 44 (m_ 2), p_ 6 45 (m_ 2), p_ 7 46 (k_ 45), p_ 8 47 (m_ 0), p_ 9 48 (n_ 47), p_ 10 49 (f_ 0 48), r_ 11 50 (.ld true 3 (.t 49)), c_ 12 51 132 [.t 50], a_ 4 43 (l_ 42), p_ 13 52 (.bin 0 1 (.t 46) (.t 51)), p_ 14 53 (.ixs 1 (.t 44) (.t 52)), r_ 15 54 (l_ 53), p_ 16 55 (.mx true (.t 43) (.t 54)), p_ 17 56 (n_ 39), p_ 18 57 (f_ 7 56), e0_ 19 (.st 1 (.t 57) (.t 55))])))))
theorem tz85_g : tz_Good 85 tz85 := ⟨by kernel_rfl, by kernel_rfl⟩
def tz86 : XF := .mk 19 (.one 4) (.seq (g_ 2 [e_ 0 3 (.box 52 (.t 1)), p_ 1 4 (.mv (i_ 0))]) (.seq (.seq (g_ 3 [p_ 0 6 (m_ 0), p_ 1 7 (k_ 6), p_ 2 8 (.mv (i_ 0))]) (.block 2 (.loop [0, 3, 4, 5, 7, 8, 9, 10, 11, 12, 13, 14, 15, 16, 17, 18] (.seq (g_ 1 [p_ 0 9 (.bin 3 0 (.t 8) (.t 7))]) (.seq (.cond (.t 9) .skip (.exit 2)) (.seq (.block 3 (.seq (g_ 2 [p_ 0 10 (m_ 8), p_ 1 5 (m_ 10)]) (.seq (h_ 6 [r_ 0 11 (.ld true 2 (.t 3)), p_ 1 12 (m_ 0), p_ 2 13 (m_ 5), p_ 3 14 (.ixs 2 (.t 12) (.t 13)), r_ 4 15 (.ld true 2 (.t 14)), p_ 5 16 (.eqs false 2 (.st [(0, 1, false, .int), (1, 1, false, .int)]) (.t 11) (.t 15))]) (.cond (.t 16) (.seq (g_ 2 [p_ 0 17 (m_ 5), p_ 1 4 (m_ 17)]) .ret) .skip)))) (g_ 2 [p_ 0 18 (.bin 0 0 (.t 8) (i_ 1)), p_ 1 8 (m_ 18)]))))))) (.seq (g_ 1 [p_ 0 4 (.mv (.c (.int 0 (.negSucc 0))))]) .ret)))
theorem tz86_g : tz_Good 86 tz86 := ⟨by kernel_rfl, by kernel_rfl⟩
def tz105 : XF := .mk 52 (.one 6) (.seq (g_ 3 [e_ 0 3 (.box 45 (.t 0)), e_ 1 4 (.box 52 (.t 1)), p_ 2 6 (.mv (.c .nilP))]) (.seq (.seq (g_ 14 [r_ 0 10 (.ld true 3 (.t 3)), c_ 1 11 122 [.t 10], p_ 2 12 (.un 0 (.t 11)), p_ 3 13 (m_ 12), rg_ 4 14 13 false (.ld true 3 (.t 3)), rg_ 5 15 13 false (.ld true 2 (.t 4)), cg_ 6 16 13 false 74 [(.t 14), (.t 15)], pg_ 7 17 13 false (.bin 3 0 (.t 16) (i_ 0)), p_ 8 18 (.pick (.t 13) (.c (.bool true)) (.t 17)), p_ 9 19 (m_ 18), pg_ 10 20 19 false (m_ 2), pg_ 11 21 19 false (k_ 20), pg_ 12 22 19 false (.bin 3 2 (.t 21) (i_ 400)), p_ 13 23 (.pick (.t 19) (.c (.bool true)) (.t 22))]) (.cond (.t 23) (.seq (g_ 1 [p_ 0 6 (.mv (.c .nilP))]) .ret) .skip)) (.seq (.reg true 13 (.split 1 9 (.split 4 9 (.leaf [r_ 0 24 (.ld true 3 (.t 3)), r_ 2 26 (.ld true 2 (.t 4)), p_ 3 27 (m_ 2), p_ 5 29 (m_ 2), p_ 6 30 (k_ 29), p_ 7 31 (m_ 2), p_ 8 32 (k_ 31), c_ 1 25 45 [.t 24], a_ 2 26 (.ld true 2 (.t 4)), c_ 4 28 77 [.t 27], a_ 2 26 (.ld true 2 (.t 4)), e_ 9 33 .mkm, a_ 2 26 (.ld true 2 (.t 4)), p_ 10 34 (.bld [(.int 1 (.ofNat 0)), (.int 3 (.ofNat 0)), .nilS, (.int 1 (.ofNat 0)), (.int 2 (.ofNat 0)), .nilS, (o_ 0), (o_ 0), (.bool false), .nilM] [(0, 3), (3, 2), (5, 1), (6, 1), (7, 1), (9, 1)] [(.t 25), (.t 26), (.t 28), (.t 30), (.t 32), (.t 33)]), e_ 11 35 (.box 140 (.t 34)), p_ 12 7 (m_ 35)]) (.leaf [r_ 0 24 (.ld true 3 (.t 3)), r_ 2 26 (.ld true 2 (.t 4)), p_ 3 27 (m_ 2), p_ 5 29 (m_ 2), p_ 6 30 (k_ 29), p_ 7 31 (m_ 2), p_ 8 32 (k_ 31), c_ 1 25 45 [.t 24], a_ 2 26 (.ld true 2 (.t 4)), e_ 9 33 .mkm, a_ 2 26 (.ld true 2 (.t 4)), c_ 4 28 77 [.t 27], a_ 2 26 (.ld true 2 (.t 4)), p_ 10 34 (.bld [(.int 1 (.ofNat 0)), (.int 3 (.ofNat 0)), .nilS, (.int 1 (.ofNat 0)), (.int 2 (.ofNat 0)), .nilS, (o_ 0), (o_ 0), (.bool false), .nilM] [(0, 3), (3, 2), (5, 1), (6, 1), (7, 1), (9, 1)] [(.t 25), (.t 26), (.t 28), (.t 30), (.t 32), (.t 33)]), e_ 11 35 (.box 140 (.t 34)), p_ 12 7 (m_ 35)])) (.leaf [r_ 0 24 (.ld true 3 (.t 3)), r_ 2 26 (.ld true 2 (.t 4)), p_ 3 27 (m_ 2), p_ 5 29 (m_ 2), p_ 6 30 (k_ 29), p_ 7 31 (m_ 2), p_ 8 32 (k_ 31), e_ 9 33 .mkm, a_ 0 24 (.ld true 3 (.t 3)), a_ 2 26 (.ld true 2 (.t 4)), c_ 1 25 45 [.t 24], a_ 2 26 (.ld true 2 (.t 4)), c_ 4 28 77 [.t 27], a_ 2 26 (.ld true 2 (.t 4)), p_ 10 34 (.bld [(.int 1 (.ofNat 0)), (.int 3 (.ofNat 0)), .nilS, (.int 1 (.ofNat 0)), (.int 2 (.ofNat 0)), .nilS, (o_ 0), (o_ 0), (.bool false), .nilM] [(0, 3), (3, 2), (5, 1), (6, 1), (7, 1), (9, 1)] [(.t 25), (.t 26), (.t 28), (.t 30), (.t 32), (.t 33)]), e_ 11 35 (.box 140 (.t 34)), p_ 12 7 (m_ 35)]))) (.seq (.seq (g_ 4 [p_ 0 36 (f_ 2 3), r_ 1 37 (l_ 36), p_ 2 38 (k_ 37), p_ 3 39 (.mv (i_ 0))]) (.block 2 (.loop [2, 6, 7, 9, 37, 38, 39, 40, 41, 42, 43, 44, 45, 46, 47, 48, 49, 50, 51] (.seq (g_ 1 [p_ 0 40 (.bin 3 0 (.t 39) (.t 38))]) (.seq (.cond (.t 40) .skip (.exit 2)) (.seq (.block 3 (.seq (g_ 4 [p_ 0 41 (.ixs 2 (.t 37) (.t 39)), r_ 1 42 (.ld true 2 (.t 41)), e_ 2 9 (.al 52 [(.int 1 (.ofNat 0)), (.int 2 (.ofNat 0))]), e0_ 3 (.st 2 (.t 9) (.t 42))]) (h_ 8 [p_ 0 43 (m_ 7), p_ 1 44 (n_ 43), p_ 2 45 (f_ 9 44), r_ 3 46 (l_ 45), r_ 4 47 (.ld true 2 (.t 9)), p_ 5 48 (m_ 2), p_ 6 49 (k_ 48), e0_ 7 (.mu 2 (.st [(0, 1, false, .int), (1, 1, false, .int)]) (.t 46) (.t 47) (.t 49))]))) (g_ 2 [p_ 0 50 (.bin 0 0 (.t 39) (i_ 1)), p_ 1 39 (m_ 50)]))))))) (.seq (g_ 2 [p_ 0 51 (m_ 7), p_ 1 6 (m_ 51)]) .ret)))))
theorem tz105_g : tz_Good 105 tz105 := ⟨by kernel_rfl, by kernel_rfl⟩
def tz106 : XF := .mk 3 (.one 0) (.seq (g_ 1 [p_ 0 0 (.mv (.c .nilP))]) (.seq (g_ 3 [p_ 0 1 (.bld [(.int 4 (.ofNat 0)), (.int 4 (.ofNat 0)), .nilS, .nilS, (.bool false)] [(4, 1)] [(.c (.bool true))]), e_ 1 2 (.box 197 (.t 1)), p_ 2 0 (m_ 2)]) .ret))
theorem tz106_g : tz_Good 106 tz106 := ⟨by kernel_rfl, by kernel_rfl⟩
def tz108 : XF := .mk 9 (.one 4) (.seq (g_ 2 [e_ 0 3 (.box 168 (.t 1)), p_ 1 4 (.mv (.c .nilS))]) (.seq (g_ 5 [p_ 0 5 (m_ 0), c_ 1 6 51 [.t 5], p_ 2 7 (.mkf 151 [.t 3]), c_ 3 8 135 [(.t 6), (.t 7)], p_ 4 4 (m_ 8)]) .ret))
theorem tz108_g : tz_Good 108 tz108 := ⟨by kernel_rfl, by kernel_rfl⟩
def tz113 : XF := .mk 19 (.one 4) (.seq (g_ 1 [p_ 0 4 (.mv (i_ 0))]) (.seq (.seq (g_ 3 [p_ 0 6 (m_ 0), p_ 1 7 (k_ 6), p_ 2 8 (.mv (i_ 0))]) (.block 2 (.loop [0, 1, 4, 5, 7, 8, 9, 10, 11, 12, 13, 14, 15, 16, 17, 18] (.seq (g_ 1 [p_ 0 9 (.bin 3 0 (.t 8) (.t 7))]) (.seq (.cond (.t 9) .skip (.exit 2)) (.seq (.block 3 (.seq (g_ 2 [p_ 0 10 (m_ 8), p_ 1 5 (m_ 10)]) (.seq (g_ 6 [p_ 0 11 (m_ 1), p_ 1 12 (m_ 0), p_ 2 13 (m_ 5), p_ 3 14 (.ixs 2 (.t 12) (.t 13)), r_ 4 15 (.ld true 2 (.t 14)), p_ 5 16 .bad]) (.cond (.t 16) (.seq (g_ 2 [p_ 0 17 (m_ 5), p_ 1 4 (m_ 17)]) .ret) .skip)))) (g_ 2 [p_ 0 18 (.bin 0 0 (.t 8) (i_ 1)), p_ 1 8 (m_ 18)]))))))) (.seq (g_ 1 [p_ 0 4 (.mv (.c (.int 0 (.negSucc 0))))]) .ret)))
theorem tz113_g : tz_Good 113 tz113 := ⟨by kernel_rfl, by kernel_rfl⟩
def tz120 : XF := .mk 14 (.cell 2 true 5) (.seq (g_ 2 [e_ 0 1 (.box 178 (.t 0)), e_ 1 2 (.al 176 [(.int 1 (.ofNat 0)), (.int 1 (.ofNat 0)), (.str []), (.str []), (o_ 0)])]) (.seq (g_ 12 [p_ 0 3 (f_ 0 1), r_ 1 4 (l_ 3), p_ 2 5 (f_ 1 1), r_ 3 6 (l_ 5), p_ 4 7 (f_ 2 1), r_ 5 8 (l_ 7), p_ 6 9 (f_ 3 1), r_ 7 10 (l_ 9), p_ 8 11 (f_ 4 1), r_ 9 12 (l_ 11), p_ 10 13 (.bld [(.int 1 (.ofNat 0)), (.int 1 (.ofNat 0)), (.str []), (.str []), (o_ 0)] [(0, 1), (1, 1), (2, 1), (3, 1), (4, 1)] [(.t 4), (.t 6), (.t 8), (.t 10), (.t 12)]), e0_ 11 (.st 5 (.t 2) (.t 13))]) .ret))
theorem tz120_g : tz_Good 120 tz120 := ⟨by kernel_rfl, by kernel_rfl⟩
def tz122 : XF := .mk 46 (.one 2) (.seq (g_ 2 [e_ 0 1 (.box 45 (.t 0)), p_ 1 2 (.mv (.c (.bool false)))]) (.seq (.seq (g_ 20 [p_ 0 6 (f_ 0 1), r_ 1 7 (l_ 6), p_ 2 8 (.bin 3 3 (.t 7) (.c (.int 1 (.ofNat 4)))), p_ 3 9 (m_ 8), pg_ 4 10 9 false (f_ 1 1), rg_ 5 11 9 false (l_ 10), pg_ 6 12 9 false (.bin 3 4 (.t 11) (.c (.int 3 (.ofNat 0)))), p_ 7 13 (.pick (.t 9) (.c (.bool true)) (.t 12)), p_ 8 14 (m_ 13), pg_ 9 15 14 false (f_ 2 1), rg_ 10 16 14 false (l_ 15), pg_ 11 17 14 false (k_ 16), pg_ 12 18 14 false (.bin 3 4 (.t 17) (i_ 0)), p_ 13 19 (.pick (.t 14) (.c (.bool true)) (.t 18)), p_ 14 20 (m_ 19), pg_ 15 21 20 false (f_ 2 1), rg_ 16 22 20 false (l_ 21), pg_ 17 23 20 false (k_ 22), pg_ 18 24 20 false (.bin 3 2 (.t 23) (i_ 8)), p_ 19 25 (.pick (.t 20) (.c (.bool true)) (.t 24))]) (.cond (.t 25) (.seq (g_ 1 [p_ 0 2 (.mv (.c (.bool false)))]) .ret) .skip)) (.seq (g_ 1 [e_ 0 3 (.al 205 [(.bool false), (.bool false), (.bool false), (.bool false), (.bool false), (.bool false), (.bool false), (.bool false), (.bool false), (.bool false), (.bool false), (.bool false), (.bool false), (.bool false), (.bool false), (.bool false)])]) (.seq (.seq (g_ 4 [p_ 0 26 (f_ 2 1), r_ 1 27 (l_ 26), p_ 2 28 (k_ 27), p_ 3 29 (.mv (i_ 0))]) (.block 2 (.loop [2, 3, 5, 27, 28, 29, 30, 31, 32, 33, 34, 35, 36, 37, 38, 39, 40, 41, 42, 43, 44, 45] (.seq (g_ 1 [p_ 0 30 (.bin 3 0 (.t 29) (.t 28))]) (.seq (.cond (.t 30) .skip (.exit 2)) (.seq (.block 3 (.seq (g_ 4 [p_ 0 31 (.ixs 2 (.t 27) (.t 29)), r_ 1 32 (.ld true 2 (.t 31)), e_ 2 5 (.al 52 [(.int 1 (.ofNat 0)), (.int 2 (.ofNat 0))]), e0_ 3 (.st 2 (.t 5) (.t 32))]) (.seq (.seq (g_ 9 [r_ 0 33 (.ld true 2 (.t 5)), c_ 1 34 73 [.t 33], p_ 2 35 (.un 0 (.t 34)), p_ 3 36 (m_ 35), pg_ 4 37 36 false (f_ 0 5), rg_ 5 38 36 false (l_ 37), pg_ 6 39 36 false (.ixa 16 1 (.t 3) (.t 38)), rg_ 7 40 36 false (l_ 39), p_ 8 41 (.pick (.t 36) (.c (.bool true)) (.t 40))]) (.cond (.t 41) (.seq (g_ 1 [p_ 0 2 (.mv (.c (.bool false)))]) .ret) .skip)) (g_ 4 [p_ 0 42 (f_ 0 5), r_ 1 43 (l_ 42), p_ 2 44 (.ixa 16 1 (.t 3) (.t 43)), e0_ 3 (.st 1 (.t 44) (.c (.bool true)))])))) (g_ 2 [p_ 0 45 (.bin 0 0 (.t 29) (i_ 1)), p_ 1 29 (m_ 45)]))))))) (.seq (g_ 1 [p_ 0 2 (.mv (.c (.bool true)))]) .ret)))))
theorem tz122_g : tz_Good 122 tz122 := ⟨by kernel_rfl, by kernel_rfl⟩
def tz128 : XF := .mk 18 (.one 2) (.seq (g_ 2 [e_ 0 1 (.box 88 (.t 0)), p_ 1 2 (.mv (.c (.bool false)))]) (.seq (g_ 16 [p_ 0 3 (f_ 11 1), r_ 1 4 (l_ 3), p_ 2 5 (.bin 3 4 (.t 4) (.c (.int 3 (.ofNat 0)))), p_ 3 6 (m_ 5), pg_ 4 7 6 true (f_ 12 1), rg_ 5 8 6 true (l_ 7), pg_ 6 9 6 true (k_ 8), pg_ 7 10 6 true (.bin 3 4 (.t 9) (i_ 0)), p_ 8 11 (.pick (.t 6) (.t 10) (.c (.bool false))), p_ 9 12 (m_ 11), pg_ 10 13 12 true (f_ 15 1), rg_ 11 14 12 true (l_ 13), pg_ 12 15 12 true (k_ 14), pg_ 13 16 12 true (.bin 3 4 (.t 15) (i_ 0)), p_ 14 17 (.pick (.t 12) (.t 16) (.c (.bool false))), p_ 15 2 (m_ 17)]) .ret))
theorem tz128_g : tz_Good 128 tz128 := ⟨by kernel_rfl, by kernel_rfl⟩
def tz129 : XF := .mk 8 (.one 2) (.seq (g_ 1 [p_ 0 2 (.mv (.c .nilS))]) (.seq (.seq (g_ 2 [p_ 0 3 (m_ 0), p_ 1 4 (.isn false 2 (.t 3))]) (.cond (.t 4) (.seq (g_ 1 [p_ 0 2 (.mv (.c .nilS))]) .ret) .skip)) (.seq (g_ 4 [e_ 0 5 (.bsl 176 5 0 [] [] []), p_ 1 6 (m_ 0), e_ 2 7 (.app 176 5 48 (.t 5) (.t 6)), p_ 3 2 (m_ 7)]) .ret)))
theorem tz129_g : tz_Good 129 tz129 := ⟨by kernel_rfl, by kernel_rfl⟩
def tz130 : XF := .mk 8 (.one 2) (.seq (g_ 1 [p_ 0 2 (.mv (.c .nilS))]) (.seq (.seq (g_ 2 [p_ 0 3 (m_ 0), p_ 1 4 (.isn false 2 (.t 3))]) (.cond (.t 4) (.seq (g_ 1 [p_ 0 2 (.mv (.c .nilS))]) .ret) .skip)) (.seq (g_ 4 [e_ 0 5 (.bsl 144 3 0 [] [] []), p_ 1 6 (m_ 0), e_ 2 7 (.app 144 3 40 (.t 5) (.t 6)), p_ 3 2 (m_ 7)]) .ret)))
theorem tz130_g : tz_Good 130 tz130 := ⟨by kernel_rfl, by kernel_rfl⟩
def tz131 : XF := .mk 11 .none (.seq (g_ 3 [p_ 0 3 (m_ 0), p_ 1 4 (k_ 3), p_ 2 2 (m_ 4)]) (g_ 6 [p_ 0 5 (m_ 0), p_ 1 6 (m_ 2), p_ 2 7 (m_ 2), p_ 3 8 (.cnv 4 (.t 7)), c_ 4 9 158 [.t 8], c_ 5 10 157 [(.t 5), (i_ 0), (.t 6), (.t 9)]]))
theorem tz131_g : tz_Good 131 tz131 := ⟨by kernel_rfl, by kernel_rfl⟩
def tz132 : XF := .mk 8 (.one 2) (.seq (g_ 2 [e_ 0 1 (.box 45 (.t 0)), p_ 1 2 (.mv (i_ 0))]) (.seq (g_ 6 [p_ 0 3 (f_ 2 1), r_ 1 4 (l_ 3), p_ 2 5 (k_ 4), p_ 3 6 (.bin 0 3 (.t 5) (i_ 2)), p_ 4 7 (.bin 0 0 (.t 6) (i_ 1)), p_ 5 2 (m_ 7)]) .ret))
theorem tz132_g : tz_Good 132 tz132 := ⟨by kernel_rfl, by kernel_rfl⟩
def tz135 : XF := .mk 42 (.one 4) (.seq (g_ 1 [p_ 0 4 (.mv (.c .nilS))]) (.seq (g_ 4 [p_ 0 8 (m_ 0), p_ 1 9 (m_ 1), c_ 2 10 113 [(.t 8), (.t 9)], p_ 3 5 (m_ 10)]) (.seq (.seq (g_ 2 [p_ 0 11 (m_ 5), p_ 1 12 (.bin 3 4 (.t 11) (.c (.int 0 (.negSucc 0))))]) (.cond (.t 12) (.seq (g_ 2 [p_ 0 13 (m_ 0), p_ 1 4 (m_ 13)]) .ret) .skip)) (.seq (.seq (g_ 3 [p_ 0 14 (m_ 5), p_ 1 15 (.bin 0 0 (.t 14) (i_ 1)), p_ 2 6 (m_ 15)]) (.block 2 (.loop [0, 1, 4, 5, 6, 7, 16, 17, 18, 19, 20, 21, 22, 23, 24, 25, 26, 27, 28, 29, 30, 31, 32, 33, 34, 35, 36, 37, 38, 39, 40, 41] (.seq (.seq (g_ 4 [p_ 0 16 (m_ 6), p_ 1 17 (m_ 0), p_ 2 18 (k_ 17), p_ 3 19 (.bin 3 0 (.t 16) (.t 18))]) (.cond (.t 19) .skip (.exit 2))) (.seq (.block 3 (.seq (g_ 6 [p_ 0 22 (m_ 0), p_ 1 23 (m_ 6), p_ 2 24 (.ixs 2 (.t 22) (.t 23)), r_ 3 25 (.ld true 2 (.t 24)), e_ 4 7 (.al 52 [(.int 1 (.ofNat 0)), (.int 2 (.ofNat 0))]), e0_ 5 (.st 2 (.t 7) (.t 25))]) (.seq (g_ 4 [p_ 0 26 (m_ 1), r_ 1 27 (.ld true 2 (.t 7)), p_ 2 28 .bad, p_ 3 29 (.un 0 (.t 28))]) (.cond (.t 29) (.seq (g_ 5 [p_ 0 30 (m_ 0), p_ 1 31 (m_ 5), r_ 2 32 (.ld true 2 (.t 7)), p_ 3 33 (.ixs 2 (.t 30) (.t 31)), e0_ 4 (.st 2 (.t 33) (.t 32))]) (g_ 3 [p_ 0 34 (m_ 5), p_ 1 35 (.bin 0 0 (.t 34) (i_ 1)), p_ 2 5 (m_ 35)])) .skip)))) (g_ 3 [p_ 0 20 (m_ 6), p_ 1 21 (.bin 0 0 (.t 20) (i_ 1)), p_ 2 6 (m_ 21)])))))) (.seq (g_ 4 [p_ 0 36 (m_ 0), p_ 1 37 (m_ 5), r_ 2 38 (.sls 2 (.t 36) (some (.t 37)) none none), .p 3 none none .bad]) (.seq (g_ 4 [p_ 0 39 (m_ 0), p_ 1 40 (m_ 5), r_ 2 41 (.sls 2 (.t 39) none (some (.t 40)) none), p_ 3 4 (m_ 41)]) .ret))))))
theorem tz135_g : tz_Good 135 tz135 := ⟨by kernel_rfl, by kernel_rfl⟩
def tz157 : XF := .mk 134 .none (.seq (g_ 1 [p_ 0 8 (.mv (.c (.bool true)))]) (.seq (g_ 1 [p_ 0 9 (.mv (.c (.bool true)))]) (.block 2 (.loop [0, 1, 2, 3, 8, 9, 10, 11, 12, 13, 14, 15, 16, 17, 18, 19, 20, 21, 22, 23, 24, 25, 26, 28, 29, 30, 31, 32, 34, 35, 36, 37, 38, 40, 41, 42, 43, 44, 45, 46, 47, 48, 49, 50, 51, 52, 53, 55, 56, 57, 58, 59, 60, 61, 62, 63, 64, 65, 66, 67, 68, 69, 70, 71, 72, 73, 74, 75, 76, 77, 78, 79, 80, 81, 82, 83, 84, 85, 86, 87, 88, 89, 90, 91, 92, 93, 94, 95, 96, 97, 98, 99, 100, 101, 102, 103, 104, 105, 106, 107, 108, 109, 110, 111, 112, 113, 114, 115, 116, 117, 118, 119, 120, 122, 123, 124, 125, 126, 127, 128, 129, 130, 131, 133] (.block 3 (.seq (g_ 4 [p_ 0 19 (m_ 2), p_ 1 20 (m_ 1), p_ 2 21 (.bin 0 1 (.t 19) (.t 20)), p_ 3 10 (m_ 21)]) (.seq (.seq (g_ 2 [p_ 0 22 (m_ 10), p_ 1 23 (.bin 3 1 (.t 22) (i_ 12))]) (.cond (.t 23) (.seq (g_ 4 [p_ 0 24 (m_ 0), p_ 1 25 (m_ 1), p_ 2 26 (m_ 2), c_ 3 27 174 [(.t 24), (.t 25), (.t 26)]]) .ret) .skip)) (.seq (.seq (g_ 2 [p_ 0 28 (m_ 3), p_ 1 29 (.bin 3 4 (.t 28) (i_ 0))]) (.cond (.t 29) (.seq (g_ 4 [p_ 0 30 (m_ 0), p_ 1 31 (m_ 1), p_ 2 32 (m_ 2), c_ 3 33 175 [(.t 30), (.t 31), (.t 32)]]) .ret) .skip)) (.seq (.seq (g_ 2 [p_ 0 34 (m_ 8), p_ 1 35 (.un 0 (.t 34))]) (.cond (.t 35) (.seq (g_ 4 [p_ 0 36 (m_ 0), p_ 1 37 (m_ 1), p_ 2 38 (m_ 2), c_ 3 39 176 [(.t 36), (.t 37), (.t 38)]]) (g_ 3 [p_ 0 40 (m_ 3), p_ 1 41 (.bin 0 1 (.t 40) (i_ 1)), p_ 2 3 (m_ 41)])) .skip)) (.seq (g_ 9 [p_ 0 43 (m_ 0), p_ 1 44 (m_ 1), p_ 2 45 (m_ 2), c_ 3 46 177 [(.t 43), (.t 44), (.t 45)], p_ 4 42 (m_ 46), p_ 5 47 (.ext 0 (.t 42)), p_ 6 48 (.ext 1 (.t 42)), p_ 7 11 (m_ 47), p_ 8 12 (m_ 48)]) (.seq (.seq (g_ 2 [p_ 0 49 (m_ 12), p_ 1 50 (.bin 3 4 (.t 49) (i_ 2))]) (.cond (.t 50) (.seq (g_ 4 [p_ 0 51 (m_ 0), p_ 1 52 (m_ 1), p_ 2 53 (m_ 2), c_ 3 54 178 [(.t 51), (.t 52), (.t 53)]]) (.seq (g_ 7 [p_ 0 55 (m_ 2), p_ 1 56 (.bin 0 1 (.t 55) (i_ 1)), p_ 2 57 (m_ 11), p_ 3 58 (m_ 1), p_ 4 59 (.bin 0 1 (.t 57) (.t 58)), p_ 5 60 (.bin 0 1 (.t 56) (.t 59)), p_ 6 11 (m_ 60)]) (g_ 1 [p_ 0 12 (.mv (i_ 1))]))) .skip)) (.seq (.seq (g_ 8 [p_ 0 61 (m_ 8), p_ 1 62 (m_ 61), pg_ 2 63 62 true (m_ 9), p_ 3 64 (.pick (.t 62) (.t 63) (.c (.bool false))), p_ 4 65 (m_ 64), pg_ 5 66 65 true (m_ 12), pg_ 6 67 65 true (.bin 3 4 (.t 66) (i_ 1)), p_ 7 68 (.pick (.t 65) (.t 67) (.c (.bool false)))]) (.cond (.t 68) (.seq (g_ 4 [p_ 0 69 (m_ 0), p_ 1 70 (m_ 1), p_ 2 71 (m_ 2), c_ 3 72 179 [(.t 69), (.t 70), (.t 71)]]) (.cond (.t 72) .ret .skip)) .skip)) (.seq (.seq (h_ 15 [p_ 0 73 (m_ 1), p_ 1 74 (.bin 3 2 (.t 73) (i_ 0)), p_ 2 75 (m_ 74), pg_ 3 76 75 true (m_ 0), pg_ 4 77 75 true (m_ 1), pg_ 5 78 75 true (.bin 0 1 (.t 77) (i_ 1)), pg_ 6 79 75 true (.ixs 1 (.t 76) (.t 78)), rg_ 7 80 75 true (l_ 79), pg_ 8 81 75 true (m_ 0), pg_ 9 82 75 true (m_ 11), pg_ 10 83 75 true (.ixs 1 (.t 81) (.t 82)), rg_ 11 84 75 true (l_ 83), cg_ 12 85 75 true 180 [(.t 80), (.t 84)], pg_ 13 86 75 true (.un 0 (.t 85)), p_ 14 87 (.pick (.t 75) (.t 86) (.c (.bool false)))]) (.cond (.t 87) (.seq (g_ 6 [p_ 0 88 (m_ 0), p_ 1 89 (m_ 1), p_ 2 90 (m_ 2), p_ 3 91 (m_ 11), c_ 4 92 181 [(.t 88), (.t 89), (.t 90), (.t 91)], p_ 5 13 (m_ 92)]) (.seq (g_ 2 [p_ 0 93 (m_ 13), p_ 1 1 (m_ 93)]) (.exit 3))) .skip)) (.seq (g_ 10 [p_ 0 95 (m_ 0), p_ 1 96 (m_ 1), p_ 2 97 (m_ 2), p_ 3 98 (m_ 11), c_ 4 99 182 [(.t 95), (.t 96), (.t 97), (.t 98)], p_ 5 94 (m_ 99), p_ 6 100 (.ext 0 (.t 94)), p_ 7 101 (.ext 1 (.t 94)), p_ 8 14 (m_ 100), p_ 9 15 (m_ 101)]) (.seq (g_ 2 [p_ 0 102 (m_ 15), p_ 1 9 (m_ 102)]) (.seq (g_ 8 [p_ 0 103 (m_ 14), p_ 1 104 (m_ 1), p_ 2 105 (.bin 0 1 (.t 103) (.t 104)), p_ 3 106 (m_ 2), p_ 4 107 (m_ 14), p_ 5 108 (.bin 0 1 (.t 106) (.t 107)), p_ 6 16 (m_ 105), p_ 7 17 (m_ 108)]) (.seq (g_ 3 [p_ 0 109 (m_ 10), p_ 1 110 (.bin 0 3 (.t 109) (i_ 8)), p_ 2 18 (m_ 110)]) (.seq (g_ 3 [p_ 0 111 (m_ 16), p_ 1 112 (m_ 17), p_ 2 113 (.bin 3 0 (.t 111) (.t 112))]) (.cond (.t 113) (.seq (g_ 4 [p_ 0 114 (m_ 16), p_ 1 115 (m_ 18), p_ 2 116 (.bin 3 3 (.t 114) (.t 115)), p_ 3 8 (m_ 116)]) (.seq (g_ 5 [p_ 0 117 (m_ 0), p_ 1 118 (m_ 1), p_ 2 119 (m_ 14), p_ 3 120 (m_ 3), c_ 4 121 157 [(.t 117), (.t 118), (.t 119), (.t 120)]]) (g_ 3 [p_ 0 122 (m_ 14), p_ 1 123 (.bin 0 0 (.t 122) (i_ 1)), p_ 2 1 (m_ 123)]))) (.seq (g_ 4 [p_ 0 124 (m_ 17), p_ 1 125 (m_ 18), p_ 2 126 (.bin 3 3 (.t 124) (.t 125)), p_ 3 8 (m_ 126)]) (.seq (g_ 6 [p_ 0 127 (m_ 0), p_ 1 128 (m_ 14), p_ 2 129 (.bin 0 0 (.t 128) (i_ 1)), p_ 3 130 (m_ 2), p_ 4 131 (m_ 3), c_ 5 132 157 [(.t 127), (.t 129), (.t 130), (.t 131)]]) (g_ 2 [p_ 0 133 (m_ 14), p_ 1 2 (m_ 133)]))))))))))))))))))))))
theorem tz157_g : tz_Good 157 tz157 := ⟨by kernel_rfl, by kernel_rfl⟩
def tz158 : XF := .mk 8 (.one 2) (.seq (g_ 1 [p_ 0 2 (.mv (i_ 0))]) (.seq (.cond (.c (.bool false)) (.seq (g_ 4 [p_ 0 3 (m_ 0), p_ 1 4 (.cnv 3 (.t 3)), c_ 2 5 183 [.t 4], p_ 3 2 (m_ 5)]) .ret) .skip) (.seq (g_ 3 [p_ 0 6 (m_ 0), c_ 1 7 184 [.t 6], p_ 2 2 (m_ 7)]) .ret)))
theorem tz158_g : tz_Good 158 tz158 := ⟨by kernel_rfl, by kernel_rfl⟩
def tz174 : XF := .mk 49 .none (.seq (g_ 3 [p_ 0 8 (m_ 1), p_ 1 9 (.bin 0 0 (.t 8) (i_ 1)), p_ 2 6 (m_ 9)]) (.block 2 (.loop [0, 1, 2, 6, 7, 10, 11, 12, 13, 14, 15, 16, 17, 18, 19, 20, 21, 22, 23, 24, 25, 26, 27, 28, 29, 30, 31, 32, 33, 34, 35, 36, 37, 38, 39, 40, 41, 42, 43, 44, 45, 46, 47, 48] (.seq (.seq (g_ 3 [p_ 0 10 (m_ 6), p_ 1 11 (m_ 2), p_ 2 12 (.bin 3 0 (.t 10) (.t 11))]) (.cond (.t 12) .skip (.exit 2))) (.seq (.block 3 (.seq (g_ 2 [p_ 0 15 (m_ 6), p_ 1 7 (m_ 15)]) (.block 4 (.loop [0, 1, 2, 6, 7, 10, 11, 12, 13, 14, 15, 16, 17, 18, 19, 20, 21, 22, 23, 24, 25, 26, 27, 28, 29, 30, 31, 32, 33, 34, 35, 36, 37, 38, 39, 40, 41, 42, 43, 44, 45, 46, 47, 48] (.seq (.seq (h_ 15 [p_ 0 16 (m_ 7), p_ 1 17 (m_ 1), p_ 2 18 (.bin 3 2 (.t 16) (.t 17)), p_ 3 19 (m_ 18), pg_ 4 20 19 true (m_ 0), pg_ 5 21 19 true (m_ 7), pg_ 6 22 19 true (.ixs 1 (.t 20) (.t 21)), rg_ 7 23 19 true (l_ 22), pg_ 8 24 19 true (m_ 0), pg_ 9 25 19 true (m_ 7), pg_ 10 26 19 true (.bin 0 1 (.t 25) (i_ 1)), pg_ 11 27 19 true (.ixs 1 (.t 24) (.t 26)), rg_ 12 28 19 true (l_ 27), cg_ 13 29 19 true 180 [(.t 23), (.t 28)], p_ 14 30 (.pick (.t 19) (.t 29) (.c (.bool false)))]) (.cond (.t 30) .skip (.exit 4))) (.seq (.block 5 (h_ 18 [p_ 0 33 (m_ 0), p_ 1 34 (m_ 7), p_ 2 35 (m_ 0), p_ 3 36 (m_ 7), p_ 4 37 (.bin 0 1 (.t 36) (i_ 1)), p_ 5 38 (m_ 0), p_ 6 39 (m_ 7), p_ 7 40 (.bin 0 1 (.t 39) (i_ 1)), p_ 8 41 (.ixs 1 (.t 38) (.t 40)), r_ 9 42 (l_ 41), p_ 10 43 (m_ 0), p_ 11 44 (m_ 7), p_ 12 45 (.ixs 1 (.t 43) (.t 44)), r_ 13 46 (l_ 45), p_ 14 47 (.ixs 1 (.t 33) (.t 34)), e0_ 15 (.st 1 (.t 47) (.t 42)), p_ 16 48 (.ixs 1 (.t 35) (.t 37)), e0_ 17 (.st 1 (.t 48) (.t 46))])) (g_ 3 [p_ 0 31 (m_ 7), p_ 1 32 (.bin 0 1 (.t 31) (i_ 1)), p_ 2 7 (m_ 32)]))))))) (g_ 3 [p_ 0 13 (m_ 6), p_ 1 14 (.bin 0 0 (.t 13) (i_ 1)), p_ 2 6 (m_ 14)]))))))
theorem tz174_g : tz_Good 174 tz174 := ⟨by kernel_rfl, by kernel_rfl⟩
def tz184 : XF := .mk 25 (.one 2) (.seq (g_ 1 [p_ 0 2 (.mv (i_ 0))]) (.seq (.seq (g_ 2 [p_ 0 3 (m_ 0), p_ 1 4 (.bin 3 3 (.t 3) (.c (.int 4 (.ofNat 4294967296))))]) (.cond (.t 4) (.seq (g_ 3 [p_ 0 5 (m_ 0), p_ 1 6 (.bin 2 1 (.t 5) (.c (.int 4 (.ofNat 32)))), p_ 2 0 (m_ 6)]) (g_ 1 [p_ 0 2 (.mv (i_ 32))])) .skip)) (.seq (.seq (g_ 2 [p_ 0 7 (m_ 0), p_ 1 8 (.bin 3 3 (.t 7) (.c (.int 4 (.ofNat 65536))))]) (.cond (.t 8) (.seq (g_ 3 [p_ 0 9 (m_ 0), p_ 1 10 (.bin 2 1 (.t 9) (.c (.int 4 (.ofNat 16)))), p_ 2 0 (m_ 10)]) (g_ 3 [p_ 0 11 (m_ 2), p_ 1 12 (.bin 0 0 (.t 11) (i_ 16)), p_ 2 2 (m_ 12)])) .skip)) (.seq (.seq (g_ 2 [p_ 0 13 (m_ 0), p_ 1 14 (.bin 3 3 (.t 13) (.c (.int 4 (.ofNat 256))))]) (.cond (.t 14) (.seq (g_ 3 [p_ 0 15 (m_ 0), p_ 1 16 (.bin 2 1 (.t 15) (.c (.int 4 (.ofNat 8)))), p_ 2 0 (m_ 16)]) (g_ 3 [p_ 0 17 (m_ 2), p_ 1 18 (.bin 0 0 (.t 17) (i_ 8)), p_ 2 2 (m_ 18)])) .skip)) (.seq (g_ 7 [p_ 0 19 (m_ 2), p_ 1 20 (m_ 0), p_ 2 21 (.cnv 1 (.t 20)), p_ 3 22 (.six (.c (.str [0, 1, 2, 2, 3, 3, 3, 3, 4, 4, 4, 4, 4, 4, 4, 4, 5, 5, 5, 5, 5, 5, 5, 5, 5, 5, 5, 5, 5, 5, 5, 5, 6, 6, 6, 6, 6, 6, 6, 6, 6, 6, 6, 6, 6, 6, 6, 6, 6, 6, 6, 6, 6, 6, 6, 6, 6, 6, 6, 6, 6, 6, 6, 6, 7, 7, 7, 7, 7, 7, 7, 7, 7, 7, 7, 7, 7, 7, 7, 7, 7, 7, 7, 7, 7, 7, 7, 7, 7, 7, 7, 7, 7, 7, 7, 7, 7, 7, 7, 7, 7, 7, 7, 7, 7, 7, 7, 7, 7, 7, 7, 7, 7, 7, 7, 7, 7, 7, 7, 7, 7, 7, 7, 7, 7, 7, 7, 7, 8, 8, 8, 8, 8, 8, 8, 8, 8, 8, 8, 8, 8, 8, 8, 8, 8, 8, 8, 8, 8, 8, 8, 8, 8, 8, 8, 8, 8, 8, 8, 8, 8, 8, 8, 8, 8, 8, 8, 8, 8, 8, 8, 8, 8, 8, 8, 8, 8, 8, 8, 8, 8, 8, 8, 8, 8, 8, 8, 8, 8, 8, 8, 8, 8, 8, 8, 8, 8, 8, 8, 8, 8, 8, 8, 8, 8, 8, 8, 8, 8, 8, 8, 8, 8, 8, 8, 8, 8, 8, 8, 8, 8, 8, 8, 8, 8, 8, 8, 8, 8, 8, 8, 8, 8, 8, 8, 8, 8, 8, 8, 8, 8, 8, 8, 8, 8, 8, 8, 8, 8, 8, 8, 8, 8, 8, 8, 8])) (.t 21)), p_ 4 23 (.cnv 0 (.t 22)), p_ 5 24 (.bin 0 0 (.t 19) (.t 23)), p_ 6 2 (m_ 24)]) .ret)))))
theorem tz184_g : tz_Good 184 tz184 := ⟨by kernel_rfl, by kernel_rfl⟩
noncomputable def tz_tab (f : Nat) : Option XF := (Bool.rec (Bool.rec (Bool.rec (Bool.rec (Bool.rec (Bool.rec (Bool.rec none (some tz184) (Nat.beq f 184)) (Bool.rec none (some tz174) (Nat.beq f 174)) (Nat.blt f 184)) (Bool.rec (Bool.rec none (some tz158) (Nat.beq f 158)) (Bool.rec none (some tz157) (Nat.beq f 157)) (Nat.blt f 158)) (Nat.blt f 174)) (Bool.rec (Bool.rec (Bool.rec none (some tz135) (Nat.beq f 135)) (Bool.rec none (some tz132) (Nat.beq f 132)) (Nat.blt f 135)) (Bool.rec (Bool.rec none (some tz131) (Nat.beq f 131)) (Bool.rec none (some tz130) (Nat.beq f 130)) (Nat.blt f 131)) (Nat.blt f 132)) (Nat.blt f 157)) (Bool.rec (Bool.rec (Bool.rec (Bool.rec none (some tz129) (Nat.beq f 129)) (Bool.rec none (some tz128) (Nat.beq f 128)) (Nat.blt f 129)) (Bool.rec (Bool.rec none (some tz122) (Nat.beq f 122)) (Bool.rec none (some tz120) (Nat.beq f 120)) (Nat.blt f 122)) (Nat.blt f 128)) (Bool.rec (Bool.rec (Bool.rec none (some tz113) (Nat.beq f 113)) (Bool.rec none (some tz108) (Nat.beq f 108)) (Nat.blt f 113)) (Bool.rec (Bool.rec none (some tz106) (Nat.beq f 106)) (Bool.rec none (some tz105) (Nat.beq f 105)) (Nat.blt f 106)) (Nat.blt f 108)) (Nat.blt f 120)) (Nat.blt f 130)) (Bool.rec (Bool.rec (Bool.rec (Bool.rec (Bool.rec none (some tz86) (Nat.beq f 86)) (Bool.rec none (some tz85) (Nat.beq f 85)) (Nat.blt f 86)) (Bool.rec (Bool.rec none (some tz84) (Nat.beq f 84)) (Bool.rec none (some tz83) (Nat.beq f 83)) (Nat.blt f 84)) (Nat.blt f 85)) (Bool.rec (Bool.rec (Bool.rec none (some tz82) (Nat.beq f 82)) (Bool.rec none (some tz77) (Nat.beq f 77)) (Nat.blt f 82)) (Bool.rec (Bool.rec none (some tz76) (Nat.beq f 76)) (Bool.rec none (some tz74) (Nat.beq f 74)) (Nat.blt f 76)) (Nat.blt f 77)) (Nat.blt f 83)) (Bool.rec (Bool.rec (Bool.rec (Bool.rec none (some tz73) (Nat.beq f 73)) (Bool.rec none (some tz72) (Nat.beq f 72)) (Nat.blt f 73)) (Bool.rec (Bool.rec none (some tz71) (Nat.beq f 71)) (Bool.rec none (some tz68) (Nat.beq f 68)) (Nat.blt f 71)) (Nat.blt f 72)) (Bool.rec (Bool.rec (Bool.rec none (some tz67) (Nat.beq f 67)) (Bool.rec none (some tz65) (Nat.beq f 65)) (Nat.blt f 67)) (Bool.rec none (some tz60) (Nat.beq f 60)) (Nat.blt f 65)) (Nat.blt f 68)) (Nat.blt f 74)) (Nat.blt f 105)) (Bool.rec (Bool.rec (Bool.rec (Bool.rec (Bool.rec (Bool.rec none (some tz52) (Nat.beq f 52)) (Bool.rec none (some tz51) (Nat.beq f 51)) (Nat.blt f 52)) (Bool.rec (Bool.rec none (some tz50) (Nat.beq f 50)) (Bool.rec none (some tz49) (Nat.beq f 49)) (Nat.blt f 50)) (Nat.blt f 51)) (Bool.rec (Bool.rec (Bool.rec none (some tz48) (Nat.beq f 48)) (Bool.rec none (some tz45) (Nat.beq f 45)) (Nat.blt f 48)) (Bool.rec (Bool.rec none (some tz41) (Nat.beq f 41)) (Bool.rec none (some tz40) (Nat.beq f 40)) (Nat.blt f 41)) (Nat.blt f 45)) (Nat.blt f 49)) (Bool.rec (Bool.rec (Bool.rec (Bool.rec none (some tz39) (Nat.beq f 39)) (Bool.rec none (some tz35) (Nat.beq f 35)) (Nat.blt f 39)) (Bool.rec (Bool.rec none (some tz34) (Nat.beq f 34)) (Bool.rec none (some tz33) (Nat.beq f 33)) (Nat.blt f 34)) (Nat.blt f 35)) (Bool.rec (Bool.rec (Bool.rec none (some tz32) (Nat.beq f 32)) (Bool.rec none (some tz31) (Nat.beq f 31)) (Nat.blt f 32)) (Bool.rec none (some tz30) (Nat.beq f 30)) (Nat.blt f 31)) (Nat.blt f 33)) (Nat.blt f 40)) (Bool.rec (Bool.rec (Bool.rec (Bool.rec (Bool.rec none (some tz29) (Nat.beq f 29)) (Bool.rec none (some tz28) (Nat.beq f 28)) (Nat.blt f 29)) (Bool.rec (Bool.rec none (some tz27) (Nat.beq f 27)) (Bool.rec none (some tz26) (Nat.beq f 26)) (Nat.blt f 27)) (Nat.blt f 28)) (Bool.rec (Bool.rec (Bool.rec none (some tz25) (Nat.beq f 25)) (Bool.rec none (some tz24) (Nat.beq f 24)) (Nat.blt f 25)) (Bool.rec (Bool.rec none (some tz23) (Nat.beq f 23)) (Bool.rec none (some tz22) (Nat.beq f 22)) (Nat.blt f 23)) (Nat.blt f 24)) (Nat.blt f 26)) (Bool.rec (Bool.rec (Bool.rec (Bool.rec none (some tz21) (Nat.beq f 21)) (Bool.rec none (some tz20) (Nat.beq f 20)) (Nat.blt f 21)) (Bool.rec (Bool.rec none (some tz19) (Nat.beq f 19)) (Bool.rec none (some tz18) (Nat.beq f 18)) (Nat.blt f 19)) (Nat.blt f 20)) (Bool.rec (Bool.rec (Bool.rec none (some tz17) (Nat.beq f 17)) (Bool.rec none (some tz14) (Nat.beq f 14)) (Nat.blt f 17)) (Bool.rec none (some tz13) (Nat.beq f 13)) (Nat.blt f 14)) (Nat.blt f 18)) (Nat.blt f 22)) (Nat.blt f 30)) (Nat.blt f 60))
theorem tz_leaf {f n : Nat} {x y : XF} (hy : tz_Good n y) (h : (Bool.rec (motive := fun _ => Option XF) none (some y) (Nat.beq f n)) = some x) : tz_Good f x := by
 cases hb : Nat.beq f n with
 | false => rw [hb] at h; cases h
 | true => rw [hb] at h; cases h; rw [Nat.eq_of_beq_eq_true hb]; exact hy
theorem tz_node {f n : Nat} {a b : Option XF} {x : XF} (ha : a = some x → tz_Good f x) (hb : b = some x → tz_Good f x) (h : (Bool.rec (motive := fun _ => Option XF) a b (Nat.blt f n)) = some x) : tz_Good f x := by
 cases hc : Nat.blt f n with
 | false => rw [hc] at h; exact ha h
 | true => rw [hc] at h; exact hb h
theorem tz_all (f : Nat) (x : XF) (h : tz_tab f = some x) : chkF Tryz.prog f x = true ∧ plain (bodyOf x) = true := (tz_node (tz_node (tz_node (tz_node (tz_node (tz_node (tz_leaf tz184_g) (tz_leaf tz174_g)) (tz_node (tz_leaf tz158_g) (tz_leaf tz157_g))) (tz_node (tz_node (tz_leaf tz135_g) (tz_leaf tz132_g)) (tz_node (tz_leaf tz131_g) (tz_leaf tz130_g)))) (tz_node (tz_node (tz_node (tz_leaf tz129_g) (tz_leaf tz128_g)) (tz_node (tz_leaf tz122_g) (tz_leaf tz120_g))) (tz_node (tz_node (tz_leaf tz113_g) (tz_leaf tz108_g)) (tz_node (tz_leaf tz106_g) (tz_leaf tz105_g))))) (tz_node (tz_node (tz_node (tz_node (tz_leaf tz86_g) (tz_leaf tz85_g)) (tz_node (tz_leaf tz84_g) (tz_leaf tz83_g))) (tz_node (tz_node (tz_leaf tz82_g) (tz_leaf tz77_g)) (tz_node (tz_leaf tz76_g) (tz_leaf tz74_g)))) (tz_node (tz_node (tz_node (tz_leaf tz73_g) (tz_leaf tz72_g)) (tz_node (tz_leaf tz71_g) (tz_leaf tz68_g))) (tz_node (tz_node (tz_leaf tz67_g) (tz_leaf tz65_g)) (tz_leaf tz60_g))))) (tz_node (tz_node (tz_node (tz_node (tz_node (tz_leaf tz52_g) (tz_leaf tz51_g)) (tz_node (tz_leaf tz50_g) (tz_leaf tz49_g))) (tz_node (tz_node (tz_leaf tz48_g) (tz_leaf tz45_g)) (tz_node (tz_leaf tz41_g) (tz_leaf tz40_g)))) (tz_node (tz_node (tz_node (tz_leaf tz39_g) (tz_leaf tz35_g)) (tz_node (tz_leaf tz34_g) (tz_leaf tz33_g))) (tz_node (tz_node (tz_leaf tz32_g) (tz_leaf tz31_g)) (tz_leaf tz30_g)))) (tz_node (tz_node (tz_node (tz_node (tz_leaf tz29_g) (tz_leaf tz28_g)) (tz_node (tz_leaf tz27_g) (tz_leaf tz26_g))) (tz_node (tz_node (tz_leaf tz25_g) (tz_leaf tz24_g)) (tz_node (tz_leaf tz23_g) (tz_leaf tz22_g)))) (tz_node (tz_node (tz_node (tz_leaf tz21_g) (tz_leaf tz20_g)) (tz_node (tz_leaf tz19_g) (tz_leaf tz18_g))) (tz_node (tz_node (tz_leaf tz17_g) (tz_leaf tz14_g)) (tz_leaf tz13_g)))))) h
theorem tz_mix : Tryz.prog.follows .mixedOrders = true := by kernel_rfl
end Go.Proofs.Tryz
namespace Go.Proofs.Tryz
open Go Go.RowKit Go.Sy
open Go.Eng hiding allB
set_option maxRecDepth 1000000
set_option linter.unusedVariables false
set_option maxHeartbeats 4000000
abbrev KE := AV → T → Nat → Bool
abbrev IE := List AV × T × Nat
abbrev IL := SL × T × Nat
noncomputable def esOf {α : Type} (I : α → IE) (sp : α → KE → Bool) : SpecE := fun us M nx K => exB fun p : α => must (prB ((us, M, nx) = I p)) (sp p K)
theorem natE_said {P : Program} (hm : P.follows .mixedOrders = true) {cf : CallF} (hcf : CallOk P cf) {lp : LpF} {lf f k : Nat} {xf : XF} {α : Type} {I : α → IE} {sp : α → KE → Bool} (hf : chkF P f xf = true) (hkp : keepB k (bodyOf xf) = true) (hlp : ∀ b j x, (b, j, x) ∈ lpsOf (bodyOf xf) → LpOk P (nOf xf) k lp b j x)
  (h : ∀ p K, sp p K = true → funE k cf lp lf xf (I p).1 (I p).2.1 (I p).2.2 K = true) : NatE P f k (esOf I sp) :=
 natE_of hm hcf hf hkp hlp fun us M nx K hk => by
  obtain ⟨p, h1⟩ := exB_ok hk
  obtain ⟨e, h2⟩ := mustP_ok h1
  have h3 := h p K h2
  rw [← e] at h3
  exact h3
noncomputable def spP {α : Type} (pre : α → Prop) (out : α → KE → Bool) (p : α) (K : KE) : Bool := must (prB (pre p)) (out p K)
noncomputable def natC (prev : Nat → List AV → Option ES) (k : Nat) (es : SpecE) (g : Nat) (l : List (Nat × Nat)) (f : Nat) (vs : List AV) : Option ES := Bool.rec (prev f vs) (some (.mk k es)) (hasS f g vs l)
def NatsOk (P : Program) (nat : Nat → List AV → Option ES) : Prop := ∀ f vs k sp, nat f vs = some (.mk k sp) → NatE P f k sp
theorem natC_ok {P : Program} {prev : Nat → List AV → Option ES} {k g : Nat} {es : SpecE} {l : List (Nat × Nat)} (h1 : NatE P g k es) (h2 : NatsOk P prev) : NatsOk P (natC prev k es g l) := fun f vs k' sp h => nat_step h1 (h2 f vs k' sp) h
noncomputable def nat0 : Nat → List AV → Option ES := fun _ _ => none
theorem nat0_ok {P : Program} : NatsOk P nat0 := fun _ _ _ _ h => by cases h
noncomputable def noLp : LpF := fun _ _ _ _ _ => false
noncomputable def mP (p : Prop) (b : Bool) : Bool := must (prB p) b
noncomputable def iP (p : Prop) (x y : Bool) : Bool := ifB (prB p) x y
theorem mI {p : Prop} {b : Bool} (h : p) (k : b = true) : mP p b = true := mustP h k
theorem iI {p : Prop} {x y : Bool} (h : p → x = true) (k : ¬ p → y = true) : iP p x y = true := ifP h k
noncomputable def useC {α β R : Type _} (s : β) (I : α → β) (pre : α → Prop) (po : α → R → Prop) (k : α → R → Bool) : Bool := exB fun p => mP (s = I p) (mP (pre p) (allB fun r => iP (po p r) (k p r) true))
theorem callPR {α β R : Type _} {s : β} {I : α → β} {pre : α → Prop} {po : α → R → Prop} {k : α → R → Bool} (w : α) (h1 : s = I w) (h2 : pre w) (h3 : ∀ r, po w r → k w r = true) : useC s I pre po k = true :=
 exB_mk w (mustP h1 (mustP h2 (allB_mk fun r => ifP (h3 r) fun _ => rfl)))
theorem callR {α R : Type} {e : α → Prop} {po : α → R → Prop} {k : α → R → Bool} (w : α) (h1 : e w) (h3 : ∀ r, po w r → k w r = true) : (exB fun p => mP (e p) (allB fun r => iP (po p r) (k p r) true)) = true :=
 exB_mk w (mustP h1 (allB_mk fun r => ifP (h3 r) fun _ => rfl))
theorem callP {α : Type} {e pre : α → Prop} {k : α → Bool} (w : α) (h1 : e w) (h2 : pre w) (h3 : k w = true) : (exB fun p => mP (e p) (mP (pre p) (k p))) = true := exB_mk w (mustP h1 (mustP h2 h3))
noncomputable abbrev cfT (nat : Nat → List AV → Option ES) : CallF := callX tz_tab nat noLp 600 40
theorem cfT_ok {nat : Nat → List AV → Option ES} (h : NatsOk Tryz.prog nat) : CallOk Tryz.prog (cfT nat) := callX_ok (lp := noLp) (lf := 600) tz_mix tz_all h 40
theorem natE_pl {nat : Nat → List AV → Option ES} (hcf : CallOk Tryz.prog (cfT nat)) {f k : Nat} {xf : XF} {α : Type} {I : α → IE} {pre : α → Prop} {out : α → KE → Bool} (hf : chkF Tryz.prog f xf = true) (hkp : keepB k (bodyOf xf) = true) (hlp : lpsOf (bodyOf xf) = [])
  (h : ∀ p K, pre p → out p K = true → funE k (cfT nat) noLp 600 xf (I p).1 (I p).2.1 (I p).2.2 K = true) : NatE Tryz.prog f k (esOf I (spP pre out)) :=
 natE_said (lp := noLp) (lf := 600) tz_mix hcf hf hkp (fun b j x h => by rw [hlp] at h; cases h) fun p K hk => h p K (mustP_ok hk).1 (mustP_ok hk).2
theorem natE_pn {nat : Nat → List AV → Option ES} (hcf : CallOk Tryz.prog (cfT nat)) {f k : Nat} {xf : XF} {α : Type} {I : α → IE} {out : α → KE → Bool} (hf : chkF Tryz.prog f xf = true) (hkp : keepB k (bodyOf xf) = true) (hlp : lpsOf (bodyOf xf) = [])
  (h : ∀ p K, out p K = true → funE k (cfT nat) noLp 600 xf (I p).1 (I p).2.1 (I p).2.2 K = true) : NatE Tryz.prog f k (esOf I out) :=
 natE_said (lp := noLp) (lf := 600) tz_mix hcf hf hkp (fun b j x h => by rw [hlp] at h; cases h) h
structure PtR where
 g : Int
 k : Int
 key : List UInt8
 val : List UInt8
 n : Int
structure WrR where
 key : List UInt8
 val : List UInt8
 d : Prop
structure EnR where
 kind : Int
 cn : Int
 cl : Int
 seq : Int
 dep : Int
 p0 : Int
 p1 : Int
 p2 : Int
 p3 : Int
 p4 : Int
 p5 : Int
 fl : Int
 hp : Value
 ps : List PtR
 code : Int
 rv : List UInt8
 hw : Value
 ws : List WrR
 vn : Int
 vl : Int
def encP (x : PtR) : List PL := [.sint 1 x.g, .sint 1 x.k, .sstr x.key, .sstr x.val, .sint 0 x.n]
def encW (x : WrR) : List PL := [.sstr x.key, .sstr x.val, .sbool x.d]
def encE (x : EnR) : List PL := [.sint 1 x.kind, .sint 1 x.cn, .sint 2 x.cl, .sint 3 x.seq, .sint 1 x.dep, .sint 1 x.p0, .sint 1 x.p1, .sint 1 x.p2, .sint 1 x.p3, .sint 1 x.p4, .sint 1 x.p5, .sint 3 x.fl, .imm x.hp 5 PtR x.ps encP, .sint 1 x.code, .sstr x.rv, .imm x.hw 3 WrR x.ws encW, .sint 1 x.vn, .sint 2 x.vl]
def okE (l : List EnR) : Prop := l.length ≤ 150 ∧ ∀ (j : Nat) (x : EnR), l[j]? = some x → x.ps.length ≤ 200 ∧ x.ws.length ≤ 300
def okI (l : List EnR) (i left : Int) : Prop := 0 ≤ left → ∀ (j : Nat) (x : EnR), (j : Int) < i → l[j]? = some x → x.ps.length ≤ 200 ∧ x.ws.length ≤ 300
theorem okI_step {l : List EnR} {i left left2 : Int} {x : EnR} (h : okI l i left) (hi : 0 ≤ i) (hx : l[i.toNat]? = some x) (h1 : 0 ≤ left) (h2 : 0 ≤ left2 → x.ps.length ≤ 200 ∧ x.ws.length ≤ 300) : okI l (i + 1) left2 := fun hl j y hj hy => by
 by_cases e : (j : Int) = i
 ·have : j = i.toNat := by omega
  subst this
  rw [hx] at hy; cases hy
  exact h2 hl
 ·exact h h1 j y (by omega) hy
theorem okE_of {l : List EnR} {i left : Int} (h : okI l i left) (h1 : 0 ≤ left) (h2 : l.length ≤ 150) (h3 : (l.length : Int) ≤ i) : okE l := ⟨h2, fun j x hx => h h1 j x (by have := (List.getElem?_eq_some_iff.1 hx).1; omega) hx⟩
structure PrR where
 n : Int
 l : Int
def encR (x : PrR) : List PL := [.sint 1 x.n, .sint 2 x.l]
structure MsR where
 kind : Int
 gr : Int
 code : Int
 mn : Int
 mf : Int
 mc : Int
 ml : Int
 bal : Int
 acc : Int
 icn : Int
 icl : Int
 iseq : Int
 idep : Int
 ip0 : Int
 ip1 : Int
 ip2 : Int
 ip3 : Int
 ip4 : Int
 ip5 : Int
 hp : Value
 ps : List PtR
 rc : Int
 rv : List UInt8
 vg : Int
 vn : Int
 hv : Value
 vm : List PrR
 prn : Int
 prl : Int
 has : Prop
 hm : Value
 ms : List PrR
 he : Value
 es : List EnR
 ht : Value
 ts : List EnR
def ft_knows : XF := .mk 38 (.one 0) (.seq (g_ 1 [p_ 0 0 (.mv (.c (.bool false)))]) (.seq (g_ 5 [c_ 0 3 22 [i_ 0], c_ 1 4 22 [i_ 0], e_ 2 5 (.bsl 52 2 1 [.int 1 (.ofNat 0), .int 2 (.ofNat 0)] [(0, 2)] [.t 4]), c_ 3 6 35 [.c (.int 1 (.ofNat 1)), .t 3, .t 5], p_ 4 1 (m_ 6)]) (.seq (g_ 4 [p_ 0 7 (m_ 1), c_ 1 8 29 [i_ 1], c_ 2 9 28 [.t 7, .t 8], p_ 3 2 (m_ 9)]) (.seq (g_ 29 [p_ 0 10 (m_ 2), c_ 1 11 27 [.t 10], p_ 2 12 (.bin 3 4 (.t 11) (i_ 0)), p_ 3 13 (m_ 12), pg_ 4 14 13 true (m_ 1), cg_ 5 15 13 true 20 [.t 14], p_ 6 16 (.pick (.t 13) (.t 15) (.c (.bool false))), p_ 7 17 (m_ 16), pg_ 8 18 17 true (m_ 1), cg_ 9 19 17 true 23 [.t 18], p_ 10 20 (.pick (.t 17) (.t 19) (.c (.bool false))), p_ 11 21 (m_ 20), pg_ 12 22 21 true (m_ 1), cg_ 13 23 21 true 13 [.t 22], pg_ 14 24 21 true (.bin 3 4 (.t 23) (i_ 1)), p_ 15 25 (.pick (.t 21) (.t 24) (.c (.bool false))), p_ 16 26 (m_ 25), pg_ 17 27 26 true (m_ 1), cg_ 18 28 26 true 17 [.t 27], pg_ 19 29 26 true (.fld false 1 1 (.t 28)), pg_ 20 30 26 true (.bin 3 4 (.t 29) (.c (.int 3 (.ofNat 1)))), p_ 21 31 (.pick (.t 26) (.t 30) (.c (.bool false))), p_ 22 32 (m_ 31), pg_ 23 33 32 true (m_ 1), cg_ 24 34 32 true 14 [.t 33], pg_ 25 35 32 true (k_ 34), pg_ 26 36 32 true (.bin 3 4 (.t 35) (i_ 1)), p_ 27 37 (.pick (.t 32) (.t 36) (.c (.bool false))), p_ 28 0 (m_ 37)]) .ret))))
theorem ft_knows_ok : chkF Tryz.prog 9 ft_knows = true := by kernel_rfl
abbrev A_knows := Unit
noncomputable def I_knows (p : A_knows) : IE := ([], .leaf, 0)
noncomputable def out_knows (p : A_knows) (K : KE) : Bool := K (.bool true) .leaf 0
theorem vf_knows (p : A_knows) (K : KE) (hK : out_knows p K = true) : (funE 0 (cfT nat0) noLp 600 ft_knows (I_knows p).1 (I_knows p).2.1 (I_knows p).2.2 K) = true := by
 refine Eq.trans (b := (must (must (must (K (.bool true) .leaf 0) (true)) (must (K (.bool true) .leaf 0) (true))) (must (K (.bool true) .leaf 0) (true)))) (by kernel_rfl) ?_
 repeat' (first | exact hK | refine mI rfl ?_ | refine must_mk ?_ ?_ | exact rfl)
noncomputable def nat_knows := natC nat0 0 (esOf I_knows out_knows) 9 []
theorem nat_knows_ok : NatsOk Tryz.prog nat_knows := natC_ok (natE_pn (f := 9) (k := 0) (cfT_ok nat0_ok) ft_knows_ok (by rfl) (by rfl) vf_knows) nat0_ok
def ft_li3 : XF := .mk 39 (.one 2) (.seq (g_ 1 [p_ 0 2 (.mv (.c (.bool false)))]) (.seq (g_ 1 [p_ 0 3 (.mv (i_ 3000))]) (.seq (.seq (g_ 1 [p_ 0 4 (.mv (i_ 0))]) (.block 2 (.pre [.can 0 [0, 3, 4], .up 3, .up 4, .can 0 [0, 3, 4]] (.inv 0 (.aft (.seq (.seq (g_ 12 [p_ 0 5 (m_ 4), p_ 1 6 (m_ 0), p_ 2 7 (k_ 6), p_ 3 8 (.bin 3 0 (.t 5) (.t 7)), p_ 4 9 (m_ 8), pg_ 5 10 9 true (m_ 4), pg_ 6 11 9 true (.bin 3 0 (.t 10) (i_ 300)), p_ 7 12 (.pick (.t 9) (.t 11) (.c (.bool false))), p_ 8 13 (m_ 12), pg_ 9 14 13 true (m_ 3), pg_ 10 15 13 true (.bin 3 3 (.t 14) (i_ 0)), p_ 11 16 (.pick (.t 13) (.t 15) (.c (.bool false)))]) (.cond (.t 16) .skip (.exit 2))) (.seq (.block 3 (h_ 19 [p_ 0 19 (m_ 3), p_ 1 20 (.bin 0 1 (.t 19) (i_ 3)), p_ 2 21 (m_ 0), p_ 3 22 (m_ 4), p_ 4 23 (.ixs 5 (.t 21) (.t 22)), p_ 5 24 (f_ 2 23), r_ 6 25 (l_ 24), p_ 7 26 (.len 0 (.t 25)), p_ 8 27 (.mx false (.t 26) (i_ 4000)), p_ 9 28 (.bin 0 1 (.t 20) (.t 27)), p_ 10 29 (m_ 0), p_ 11 30 (m_ 4), p_ 12 31 (.ixs 5 (.t 29) (.t 30)), p_ 13 32 (f_ 3 31), r_ 14 33 (l_ 32), p_ 15 34 (.len 0 (.t 33)), p_ 16 35 (.mx false (.t 34) (i_ 4000)), p_ 17 36 (.bin 0 1 (.t 28) (.t 35)), p_ 18 3 (m_ 36)])) (g_ 3 [p_ 0 17 (m_ 4), p_ 1 18 (.bin 0 0 (.t 17) (i_ 1)), p_ 2 4 (m_ 18)]))) [(0, [.can 0 [0, 3, 4]]), (2, [.can 0 [3]])]))))) (.seq (g_ 3 [p_ 0 37 (m_ 3), p_ 1 38 (.bin 3 3 (.t 37) (i_ 0)), p_ 2 2 (m_ 38)]) .ret))))
theorem ft_li3_ok : chkF Tryz.prog 80 ft_li3 = true := by kernel_rfl
structure A_l_li3 where
 h : Value
 l : List PtR
 left : Int
 i : Int
structure R_l_li3 where
 left : Int
def po_l_li3 (p : A_l_li3) (r : R_l_li3) : Prop := -9000 ≤ r.left ∧ r.left ≤ 3000
noncomputable def I_l_li3 (p : A_l_li3) : IL := ((.cons 4 (.sy (.int 0 p.i)) (.cons 3 (.sy (.int 0 p.left)) (.cons 0 (.sy (.imm p.h 5 PtR p.l encP)) .nil))), .leaf, 0)
noncomputable def out_l_li3 (p : A_l_li3) (K : KC) : Bool := allB fun r : R_l_li3 => iP (po_l_li3 p r) (K 2 (.cons 3 (.sy (.int 0 r.left)) .nil) .leaf 0) true
def pre_l_li3 (p : A_l_li3) : Prop := -9000 ≤ p.left ∧ p.left ≤ 3000 ∧ 0 ≤ p.i ∧ p.i ≤ (p.l.length : Int)
theorem fin_l_li3 {p : A_l_li3} {K : KC} (hK : out_l_li3 p K = true) (r : R_l_li3) (h : po_l_li3 p r) : K 2 (.cons 3 (.sy (.int 0 r.left)) .nil) .leaf 0 = true := ifB_use h (allB_ok hK r)
noncomputable def sp_l_li3 (p : A_l_li3) (K : KC) : Bool := must (prB (pre_l_li3 p)) (out_l_li3 p K)
noncomputable def lp_li3 : LpF := fun j S M nx K => (Bool.rec (false) (exB fun p : A_l_li3 => must (prB ((S, M, nx) = I_l_li3 p)) (sp_l_li3 p K)) (Nat.beq j 0))
def mu_l_li3 (p : A_l_li3) : Nat := ((p.l.length : Int) - p.i).toNat
theorem bk_l_li3 {p q : A_l_li3} {K : KC} {s : IL} (hm : mu_l_li3 q < mu_l_li3 p) (hp : pre_l_li3 q) (hK : out_l_li3 q K = true) (e : s = I_l_li3 q) : (exB fun q => mP (s = I_l_li3 q ∧ mu_l_li3 q < mu_l_li3 p) (sp_l_li3 q K)) = true := exB_mk q (mustP ⟨e, hm⟩ (mustP hp hK))
def bd_l_li3 : XC := (.aft (.seq (.seq (g_ 12 [p_ 0 5 (m_ 4), p_ 1 6 (m_ 0), p_ 2 7 (k_ 6), p_ 3 8 (.bin 3 0 (.t 5) (.t 7)), p_ 4 9 (m_ 8), pg_ 5 10 9 true (m_ 4), pg_ 6 11 9 true (.bin 3 0 (.t 10) (i_ 300)), p_ 7 12 (.pick (.t 9) (.t 11) (.c (.bool false))), p_ 8 13 (m_ 12), pg_ 9 14 13 true (m_ 3), pg_ 10 15 13 true (.bin 3 3 (.t 14) (i_ 0)), p_ 11 16 (.pick (.t 13) (.t 15) (.c (.bool false)))]) (.cond (.t 16) .skip (.exit 2))) (.seq (.block 3 (h_ 19 [p_ 0 19 (m_ 3), p_ 1 20 (.bin 0 1 (.t 19) (i_ 3)), p_ 2 21 (m_ 0), p_ 3 22 (m_ 4), p_ 4 23 (.ixs 5 (.t 21) (.t 22)), p_ 5 24 (f_ 2 23), r_ 6 25 (l_ 24), p_ 7 26 (.len 0 (.t 25)), p_ 8 27 (.mx false (.t 26) (i_ 4000)), p_ 9 28 (.bin 0 1 (.t 20) (.t 27)), p_ 10 29 (m_ 0), p_ 11 30 (m_ 4), p_ 12 31 (.ixs 5 (.t 29) (.t 30)), p_ 13 32 (f_ 3 31), r_ 14 33 (l_ 32), p_ 15 34 (.len 0 (.t 33)), p_ 16 35 (.mx false (.t 34) (i_ 4000)), p_ 17 36 (.bin 0 1 (.t 28) (.t 35)), p_ 18 3 (m_ 36)])) (g_ 3 [p_ 0 17 (m_ 4), p_ 1 18 (.bin 0 0 (.t 17) (i_ 1)), p_ 2 4 (m_ 18)]))) [(0, [.can 0 [0, 3, 4]]), (2, [.can 0 [3]])])
theorem vb_l_li3 (p : A_l_li3) (K : KC) (hpre : pre_l_li3 p) (hK : out_l_li3 p K = true) : (codeX (cfT nat_knows) lp_li3 600 bd_l_li3 (I_l_li3 p).1 (I_l_li3 p).2.1 (I_l_li3 p).2.2 (fun e S M nx => Nat.casesOn e (exB fun q : A_l_li3 => must (prB ((S, M, nx) = I_l_li3 q ∧ mu_l_li3 q < mu_l_li3 p)) (sp_l_li3 q K)) (fun e2 => K (Nat.succ e2) S M nx))) = true := by
 refine Eq.trans (b := (let z0 : Bool := (K 2 (.cons 3 (.sy (.int 0 p.left)) .nil) .leaf 0); iP (p.i < (p.l.length : Int)) (iP (p.i < (300 : Int)) (iP ((0 : Int) ≤ p.left) (mP (InR 0 (p.left - (3 : Int))) (mP (0 ≤ p.i ∧ p.i < (p.l.length : Int)) (allB fun x1 : PtR => iP (p.l[p.i.toNat]? = some x1) (mP (InR 0 ((p.left - (3 : Int)) - (min (x1.key.length : Int) (4000 : Int)))) (mP (0 ≤ p.i ∧ p.i < (p.l.length : Int)) (allB fun x2 : PtR => iP (p.l[p.i.toNat]? = some x2) (mP (InR 0 (((p.left - (3 : Int)) - (min (x1.key.length : Int) (4000 : Int))) - (min (x2.val.length : Int) (4000 : Int)))) (mP (InR 0 (p.i + (1 : Int))) (exB fun q1 : A_l_li3 => mP (((.cons 4 (.sy (.int 0 (p.i + (1 : Int)))) (.cons 3 (.sy (.int 0 (((p.left - (3 : Int)) - (min (x1.key.length : Int) (4000 : Int))) - (min (x2.val.length : Int) (4000 : Int))))) (.cons 0 (.sy (.imm p.h 5 PtR p.l encP)) .nil))), .leaf, 0) = I_l_li3 q1 ∧ mu_l_li3 q1 < mu_l_li3 p) (sp_l_li3 q1 K)))) true))) true))) z0) z0) z0)) (by kernel_rfl) ?_
 dsimp only [pre_l_li3] at hpre
 obtain ⟨g0, g1, g2, g3⟩ := hpre
 refine iI (fun hc1 => ?_) (fun hc1 => ?_)
 refine iI (fun hc2 => ?_) (fun hc2 => ?_)
 refine iI (fun hc3 => ?_) (fun hc3 => ?_)
 refine mI (by simp only [InR]; omega) (mI (by first | omega | (constructor <;> omega)) ?_)
 refine allB_mk (fun x1 => ?_)
 refine iI (fun hi4 => ?_) (fun _ => rfl)
 refine mI (by simp only [InR]; omega) (mI (by first | omega | (constructor <;> omega)) ?_)
 refine allB_mk (fun x2 => ?_)
 refine iI (fun hi5 => ?_) (fun _ => rfl)
 refine mI (by simp only [InR]; omega) (mI (by simp only [InR]; omega) ?_)
 exact bk_l_li3 (q := ⟨p.h, p.l, ((p.left - (3 : Int)) - (min (x1.key.length : Int) (4000 : Int))) - (min (x2.val.length : Int) (4000 : Int)), p.i + (1 : Int)⟩) (by dsimp only [mu_l_li3]; omega) (by dsimp only [pre_l_li3]; omega) hK rfl
 exact fin_l_li3 hK ⟨p.left⟩ (by dsimp only [po_l_li3] <;> omega)
 exact fin_l_li3 hK ⟨p.left⟩ (by dsimp only [po_l_li3] <;> omega)
 exact fin_l_li3 hK ⟨p.left⟩ (by dsimp only [po_l_li3] <;> omega)
theorem lo_l_li3 : LpOk Tryz.prog 39 0 lp_li3 true 0 bd_l_li3 := by
 exact lp_of (lf := 600) tz_mix (cfT_ok nat_knows_ok) (by rfl) I_l_li3 mu_l_li3 sp_l_li3 (fun b j x h => by cases h) (fun S M nx K h => by obtain ⟨p, h⟩ := exB_ok h; exact ⟨p, (mustP_ok h).1, (mustP_ok h).2⟩) (fun p K h => vb_l_li3 p K (mustP_ok h).1 (mustP_ok h).2)
structure A_li3 where
 h : Value
 l : List PtR
structure R_li3 where
 q : Prop
noncomputable def I_li3 (p : A_li3) : IE := ([.sy (.imm p.h 5 PtR p.l encP)], .leaf, 0)
noncomputable def out_li3 (p : A_li3) (K : KE) : Bool := allB fun r : R_li3 => K (.sy (.bool r.q)) .leaf 0
theorem vf_li3 (p : A_li3) (K : KE) (hK : out_li3 p K = true) : (funE 0 (cfT nat_knows) lp_li3 600 ft_li3 (I_li3 p).1 (I_li3 p).2.1 (I_li3 p).2.2 K) = true := by
 refine Eq.trans (b := (useC (((.cons 4 (.sy (.int 0 0)) (.cons 3 (.sy (.int 0 3000)) (.cons 0 (.sy (.imm p.h 5 PtR p.l encP)) .nil))), .leaf, 0)) I_l_li3 pre_l_li3 po_l_li3 fun p1 r1 => K (.sy (.bool ((0 : Int) ≤ r1.left))) .leaf 0)) (by kernel_rfl) ?_
 refine callPR (⟨p.h, p.l, (3000 : Int), (0 : Int)⟩ : A_l_li3) rfl (by (try dsimp only [pre_l_li3]); omega) fun r1 hi1 => ?_
 dsimp only [po_l_li3] at hi1
 exact allB_ok hK (⟨(0 : Int) ≤ r1.left⟩ : R_li3)
noncomputable def nat_li3 := natC nat_knows 0 (esOf I_li3 out_li3) 80 [(0, 23)]
theorem nat_li3_ok : NatsOk Tryz.prog nat_li3 := natC_ok (natE_said (f := 80) (k := 0) (lp := lp_li3) (lf := 600) tz_mix (cfT_ok nat_knows_ok) ft_li3_ok (by rfl) (fun b j x h => (mem_step lo_l_li3 (fun h => (by cases h)) h)) fun p K h => vf_li3 p K h) nat_knows_ok
def ft_li5 : XF := .mk 83 (.one 2) (.aft (.seq (g_ 1 [p_ 0 2 (.mv (.c (.bool false)))]) (.seq (g_ 1 [p_ 0 3 (.mv (i_ 6000))]) (.seq (.seq (g_ 1 [p_ 0 4 (.mv (i_ 0))]) (.block 2 (.pre [.can 0 [0, 3, 4], .up 3, .up 4, .can 0 [0, 3, 4]] (.inv 0 (.aft (.seq (.seq (g_ 12 [p_ 0 7 (m_ 4), p_ 1 8 (m_ 0), p_ 2 9 (k_ 8), p_ 3 10 (.bin 3 0 (.t 7) (.t 9)), p_ 4 11 (m_ 10), pg_ 5 12 11 true (m_ 4), pg_ 6 13 11 true (.bin 3 0 (.t 12) (i_ 200)), p_ 7 14 (.pick (.t 11) (.t 13) (.c (.bool false))), p_ 8 15 (m_ 14), pg_ 9 16 15 true (m_ 3), pg_ 10 17 15 true (.bin 3 3 (.t 16) (i_ 0)), p_ 11 18 (.pick (.t 15) (.t 17) (.c (.bool false)))]) (.cond (.t 18) .skip (.exit 2))) (.seq (.block 3 (.seq (g_ 6 [p_ 0 21 (m_ 0), p_ 1 22 (m_ 4), p_ 2 23 (.ixs 18 (.t 21) (.t 22)), r_ 3 24 (.ld true 18 (.t 23)), e_ 4 5 (.al 182 [.int 1 (.ofNat 0), .int 1 (.ofNat 0), .int 2 (.ofNat 0), .int 3 (.ofNat 0), .int 1 (.ofNat 0), .int 1 (.ofNat 0), .int 1 (.ofNat 0), .int 1 (.ofNat 0), .int 1 (.ofNat 0), .int 1 (.ofNat 0), .int 1 (.ofNat 0), .int 3 (.ofNat 0), .nilS, .int 1 (.ofNat 0), .str [], .nilS, .int 1 (.ofNat 0), .int 2 (.ofNat 0)]), e0_ 5 (.st 18 (.t 5) (.t 24))]) (.seq (.seq (g_ 10 [p_ 0 25 (f_ 12 5), r_ 1 26 (l_ 25), c_ 2 27 80 [.t 26], p_ 3 28 (.un 0 (.t 27)), p_ 4 29 (m_ 28), pg_ 5 30 29 false (f_ 15 5), rg_ 6 31 29 false (l_ 30), pg_ 7 32 29 false (k_ 31), pg_ 8 33 29 false (.bin 3 2 (.t 32) (i_ 300)), p_ 9 34 (.pick (.t 29) (.c (.bool true)) (.t 33))]) (.cond (.t 34) (.seq (g_ 1 [p_ 0 2 (.mv (.c (.bool false)))]) .ret) .skip)) (.seq (g_ 15 [p_ 0 35 (m_ 3), p_ 1 36 (.bin 0 1 (.t 35) (i_ 10)), p_ 2 37 (f_ 13 5), p_ 3 38 (f_ 1 37), r_ 4 39 (l_ 38), p_ 5 40 (.len 0 (.t 39)), p_ 6 41 (.mx false (.t 40) (i_ 7000)), p_ 7 42 (.bin 0 1 (.t 36) (.t 41)), p_ 8 43 (f_ 12 5), r_ 9 44 (l_ 43), p_ 10 45 (k_ 44), p_ 11 46 (.mx false (.t 45) (i_ 200)), p_ 12 47 (.bin 0 2 (i_ 30) (.t 46)), p_ 13 48 (.bin 0 1 (.t 42) (.t 47)), p_ 14 3 (m_ 48)]) (.seq (g_ 1 [p_ 0 6 (.mv (i_ 0))]) (.block 4 (.pre [.can 0 [0, 3, 4, 5, 6], .up 3, .up 6, .can 0 [0, 3, 4, 5, 6]] (.inv 1 (.aft (.seq (.seq (g_ 5 [p_ 0 49 (m_ 6), p_ 1 50 (f_ 15 5), r_ 2 51 (l_ 50), p_ 3 52 (k_ 51), p_ 4 53 (.bin 3 0 (.t 49) (.t 52))]) (.cond (.t 53) .skip (.exit 4))) (.seq (.block 5 (h_ 21 [p_ 0 56 (m_ 3), p_ 1 57 (.bin 0 1 (.t 56) (i_ 1)), p_ 2 58 (f_ 15 5), r_ 3 59 (l_ 58), p_ 4 60 (m_ 6), p_ 5 61 (.ixs 3 (.t 59) (.t 60)), p_ 6 62 (f_ 0 61), r_ 7 63 (l_ 62), p_ 8 64 (.len 0 (.t 63)), p_ 9 65 (.mx false (.t 64) (i_ 7000)), p_ 10 66 (.bin 0 1 (.t 57) (.t 65)), p_ 11 67 (f_ 15 5), r_ 12 68 (l_ 67), p_ 13 69 (m_ 6), p_ 14 70 (.ixs 3 (.t 68) (.t 69)), p_ 15 71 (f_ 1 70), r_ 16 72 (l_ 71), p_ 17 73 (.len 0 (.t 72)), p_ 18 74 (.mx false (.t 73) (i_ 7000)), p_ 19 75 (.bin 0 1 (.t 66) (.t 74)), p_ 20 3 (m_ 75)])) (g_ 3 [p_ 0 54 (m_ 6), p_ 1 55 (.bin 0 0 (.t 54) (i_ 1)), p_ 2 6 (m_ 55)]))) [(0, [.can 0 [0, 3, 4, 5, 6]]), (4, [.can 0 [0, 3, 4]])]))))))))) (g_ 3 [p_ 0 19 (m_ 4), p_ 1 20 (.bin 0 0 (.t 19) (i_ 1)), p_ 2 4 (m_ 20)]))) [(0, [.can 0 [0, 3, 4]]), (1, [.can 0 [2]]), (2, [.can 0 [0, 3]])]))))) (.seq (g_ 8 [p_ 0 76 (m_ 3), p_ 1 77 (.bin 3 3 (.t 76) (i_ 0)), p_ 2 78 (m_ 77), pg_ 3 79 78 true (m_ 0), pg_ 4 80 78 true (k_ 79), pg_ 5 81 78 true (.bin 3 1 (.t 80) (i_ 150)), p_ 6 82 (.pick (.t 78) (.t 81) (.c (.bool false))), p_ 7 2 (m_ 82)]) .ret)))) [(0, [.up 2]), (1, [.up 2])])
theorem ft_li5_ok : chkF Tryz.prog 81 ft_li5 = true := by kernel_rfl
structure A_l_li5b where
 h : Value
 l : List EnR
 left : Int
 i : Int
 e : EnR
 k : Int
structure R_l_li5b where
 left : Int
def po_l_li5b (p : A_l_li5b) (r : R_l_li5b) : Prop := r.left ≤ p.left ∧ -5000000 ≤ r.left
noncomputable def I_l_li5b (p : A_l_li5b) : IL := ((.cons 6 (.sy (.int 0 p.k)) (.cons 5 (.ptr 0 0) (.cons 4 (.sy (.int 0 p.i)) (.cons 3 (.sy (.int 0 p.left)) (.cons 0 (.sy (.imm p.h 18 EnR p.l encE)) .nil))))), (.node .leaf (some (.blk false 182 18 [[.sy (.int 1 p.e.kind), .sy (.int 1 p.e.cn), .sy (.int 2 p.e.cl), .sy (.int 3 p.e.seq), .sy (.int 1 p.e.dep), .sy (.int 1 p.e.p0), .sy (.int 1 p.e.p1), .sy (.int 1 p.e.p2), .sy (.int 1 p.e.p3), .sy (.int 1 p.e.p4), .sy (.int 1 p.e.p5), .sy (.int 3 p.e.fl), .sy (.imm p.e.hp 5 PtR p.e.ps encP), .sy (.int 1 p.e.code), .sy (.str p.e.rv), .sy (.imm p.e.hw 3 WrR p.e.ws encW), .sy (.int 1 p.e.vn), .sy (.int 2 p.e.vl)]])) .leaf), 1)
noncomputable def out_l_li5b (p : A_l_li5b) (K : KC) : Bool := allB fun r : R_l_li5b => iP (po_l_li5b p r) (K 4 (.cons 4 (.sy (.int 0 p.i)) (.cons 3 (.sy (.int 0 r.left)) (.cons 0 (.sy (.imm p.h 18 EnR p.l encE)) .nil))) .leaf 0) true
def pre_l_li5b (p : A_l_li5b) : Prop := p.e.ws.length ≤ 300 ∧ 0 ≤ p.k ∧ p.k ≤ (p.e.ws.length : Int) ∧ p.left ≤ 6000 ∧ -20000 - 15000 * p.k ≤ p.left
theorem fin_l_li5b {p : A_l_li5b} {K : KC} (hK : out_l_li5b p K = true) (r : R_l_li5b) (h : po_l_li5b p r) : K 4 (.cons 4 (.sy (.int 0 p.i)) (.cons 3 (.sy (.int 0 r.left)) (.cons 0 (.sy (.imm p.h 18 EnR p.l encE)) .nil))) .leaf 0 = true := ifB_use h (allB_ok hK r)
noncomputable def sp_l_li5b (p : A_l_li5b) (K : KC) : Bool := must (prB (pre_l_li5b p)) (out_l_li5b p K)
structure A_l_li5 where
 h : Value
 l : List EnR
 left : Int
 i : Int
structure R_l_li5 where
 left : Int
def po_l_li5 (p : A_l_li5) (r : R_l_li5) : Prop := 0 ≤ r.left → p.l.length ≤ 150 → okE p.l
noncomputable def I_l_li5 (p : A_l_li5) : IL := ((.cons 4 (.sy (.int 0 p.i)) (.cons 3 (.sy (.int 0 p.left)) (.cons 0 (.sy (.imm p.h 18 EnR p.l encE)) .nil))), .leaf, 0)
noncomputable def out_l_li5 (p : A_l_li5) (K : KC) : Bool := must (allB fun r : R_l_li5 => iP (po_l_li5 p r) (K 2 (.cons 3 (.sy (.int 0 r.left)) (.cons 0 (.sy (.imm p.h 18 EnR p.l encE)) .nil)) .leaf 0) true) (K 1 (.cons 2 (.bool false) .nil) .leaf 0)
def pre_l_li5 (p : A_l_li5) : Prop := -6000000 ≤ p.left ∧ p.left ≤ 6000 ∧ 0 ≤ p.i ∧ p.i ≤ (p.l.length : Int) ∧ p.i ≤ 200 ∧ okI p.l p.i p.left
noncomputable def sp_l_li5 (p : A_l_li5) (K : KC) : Bool := must (prB (pre_l_li5 p)) (out_l_li5 p K)
noncomputable def lp_li5 : LpF := fun j S M nx K => (Bool.rec ((Bool.rec (false) (exB fun p : A_l_li5 => must (prB ((S, M, nx) = I_l_li5 p)) (sp_l_li5 p K)) (Nat.beq j 0))) (exB fun p : A_l_li5b => must (prB ((S, M, nx) = I_l_li5b p)) (sp_l_li5b p K)) (Nat.beq j 1))
def mu_l_li5b (p : A_l_li5b) : Nat := ((p.e.ws.length : Int) - p.k).toNat
theorem bk_l_li5b {p q : A_l_li5b} {K : KC} {s : IL} (hm : mu_l_li5b q < mu_l_li5b p) (hp : pre_l_li5b q) (hK : out_l_li5b q K = true) (e : s = I_l_li5b q) : (exB fun q => mP (s = I_l_li5b q ∧ mu_l_li5b q < mu_l_li5b p) (sp_l_li5b q K)) = true := exB_mk q (mustP ⟨e, hm⟩ (mustP hp hK))
def bd_l_li5b : XC := (.aft (.seq (.seq (g_ 5 [p_ 0 49 (m_ 6), p_ 1 50 (f_ 15 5), r_ 2 51 (l_ 50), p_ 3 52 (k_ 51), p_ 4 53 (.bin 3 0 (.t 49) (.t 52))]) (.cond (.t 53) .skip (.exit 4))) (.seq (.block 5 (h_ 21 [p_ 0 56 (m_ 3), p_ 1 57 (.bin 0 1 (.t 56) (i_ 1)), p_ 2 58 (f_ 15 5), r_ 3 59 (l_ 58), p_ 4 60 (m_ 6), p_ 5 61 (.ixs 3 (.t 59) (.t 60)), p_ 6 62 (f_ 0 61), r_ 7 63 (l_ 62), p_ 8 64 (.len 0 (.t 63)), p_ 9 65 (.mx false (.t 64) (i_ 7000)), p_ 10 66 (.bin 0 1 (.t 57) (.t 65)), p_ 11 67 (f_ 15 5), r_ 12 68 (l_ 67), p_ 13 69 (m_ 6), p_ 14 70 (.ixs 3 (.t 68) (.t 69)), p_ 15 71 (f_ 1 70), r_ 16 72 (l_ 71), p_ 17 73 (.len 0 (.t 72)), p_ 18 74 (.mx false (.t 73) (i_ 7000)), p_ 19 75 (.bin 0 1 (.t 66) (.t 74)), p_ 20 3 (m_ 75)])) (g_ 3 [p_ 0 54 (m_ 6), p_ 1 55 (.bin 0 0 (.t 54) (i_ 1)), p_ 2 6 (m_ 55)]))) [(0, [.can 0 [0, 3, 4, 5, 6]]), (4, [.can 0 [0, 3, 4]])])
theorem vb_l_li5b (p : A_l_li5b) (K : KC) (hpre : pre_l_li5b p) (hK : out_l_li5b p K = true) : (codeX (cfT nat_li3) lp_li5 600 bd_l_li5b (I_l_li5b p).1 (I_l_li5b p).2.1 (I_l_li5b p).2.2 (fun e S M nx => Nat.casesOn e (exB fun q : A_l_li5b => must (prB ((S, M, nx) = I_l_li5b q ∧ mu_l_li5b q < mu_l_li5b p)) (sp_l_li5b q K)) (fun e2 => K (Nat.succ e2) S M nx))) = true := by
 refine Eq.trans (b := (iP (p.k < (p.e.ws.length : Int)) (mP (InR 0 (p.left - (1 : Int))) (mP (0 ≤ p.k ∧ p.k < (p.e.ws.length : Int)) (allB fun x1 : WrR => iP (p.e.ws[p.k.toNat]? = some x1) (mP (InR 0 ((p.left - (1 : Int)) - (min (x1.key.length : Int) (7000 : Int)))) (mP (0 ≤ p.k ∧ p.k < (p.e.ws.length : Int)) (allB fun x2 : WrR => iP (p.e.ws[p.k.toNat]? = some x2) (mP (InR 0 (((p.left - (1 : Int)) - (min (x1.key.length : Int) (7000 : Int))) - (min (x2.val.length : Int) (7000 : Int)))) (mP (InR 0 (p.k + (1 : Int))) (exB fun q1 : A_l_li5b => mP (((.cons 6 (.sy (.int 0 (p.k + (1 : Int)))) (.cons 5 (.ptr 0 0) (.cons 4 (.sy (.int 0 p.i)) (.cons 3 (.sy (.int 0 (((p.left - (1 : Int)) - (min (x1.key.length : Int) (7000 : Int))) - (min (x2.val.length : Int) (7000 : Int))))) (.cons 0 (.sy (.imm p.h 18 EnR p.l encE)) .nil))))), (.node .leaf (some (.blk false 182 18 [[.sy (.int 1 p.e.kind), .sy (.int 1 p.e.cn), .sy (.int 2 p.e.cl), .sy (.int 3 p.e.seq), .sy (.int 1 p.e.dep), .sy (.int 1 p.e.p0), .sy (.int 1 p.e.p1), .sy (.int 1 p.e.p2), .sy (.int 1 p.e.p3), .sy (.int 1 p.e.p4), .sy (.int 1 p.e.p5), .sy (.int 3 p.e.fl), .sy (.imm p.e.hp 5 PtR p.e.ps encP), .sy (.int 1 p.e.code), .sy (.str p.e.rv), .sy (.imm p.e.hw 3 WrR p.e.ws encW), .sy (.int 1 p.e.vn), .sy (.int 2 p.e.vl)]])) .leaf), 1) = I_l_li5b q1 ∧ mu_l_li5b q1 < mu_l_li5b p) (sp_l_li5b q1 K)))) true))) true))) (K 4 (.cons 4 (.sy (.int 0 p.i)) (.cons 3 (.sy (.int 0 p.left)) (.cons 0 (.sy (.imm p.h 18 EnR p.l encE)) .nil))) .leaf 0))) (by kernel_rfl) ?_
 dsimp only [pre_l_li5b] at hpre
 obtain ⟨g0, g1, g2, g3, g4⟩ := hpre
 refine iI (fun hc1 => ?_) (fun hc1 => ?_)
 refine mI (by simp only [InR]; omega) (mI (by first | omega | (constructor <;> omega)) ?_)
 refine allB_mk (fun x1 => ?_)
 refine iI (fun hi2 => ?_) (fun _ => rfl)
 refine mI (by simp only [InR]; omega) (mI (by first | omega | (constructor <;> omega)) ?_)
 refine allB_mk (fun x2 => ?_)
 refine iI (fun hi3 => ?_) (fun _ => rfl)
 refine mI (by simp only [InR]; omega) (mI (by simp only [InR]; omega) ?_)
 exact bk_l_li5b (q := ⟨p.h, p.l, ((p.left - (1 : Int)) - (min (x1.key.length : Int) (7000 : Int))) - (min (x2.val.length : Int) (7000 : Int)), p.i, p.e, p.k + (1 : Int)⟩) (by dsimp only [mu_l_li5b]; omega) (by dsimp only [pre_l_li5b]; omega) (by refine allB_mk fun r => iI (fun hz => ?_) (fun _ => rfl); have hz : _ ∧ _ := hz; exact ifB_use (show _ ∧ _ from ⟨by have := hz.1; dsimp only at this; omega, hz.2⟩) (allB_ok hK r)) rfl
 exact fin_l_li5b hK ⟨p.left⟩ (by dsimp only [po_l_li5b] <;> omega)
theorem lo_l_li5b : LpOk Tryz.prog 83 0 lp_li5 true 1 bd_l_li5b := by
 exact lp_of (lf := 600) tz_mix (cfT_ok nat_li3_ok) (by rfl) I_l_li5b mu_l_li5b sp_l_li5b (fun b j x h => by cases h) (fun S M nx K h => by obtain ⟨p, h⟩ := exB_ok h; exact ⟨p, (mustP_ok h).1, (mustP_ok h).2⟩) (fun p K h => vb_l_li5b p K (mustP_ok h).1 (mustP_ok h).2)
def mu_l_li5 (p : A_l_li5) : Nat := ((p.l.length : Int) - p.i).toNat
theorem bk_l_li5 {p q : A_l_li5} {K : KC} {s : IL} (hm : mu_l_li5 q < mu_l_li5 p) (hp : pre_l_li5 q) (hK : out_l_li5 q K = true) (e : s = I_l_li5 q) : (exB fun q => mP (s = I_l_li5 q ∧ mu_l_li5 q < mu_l_li5 p) (sp_l_li5 q K)) = true := exB_mk q (mustP ⟨e, hm⟩ (mustP hp hK))
def bd_l_li5 : XC := (.aft (.seq (.seq (g_ 12 [p_ 0 7 (m_ 4), p_ 1 8 (m_ 0), p_ 2 9 (k_ 8), p_ 3 10 (.bin 3 0 (.t 7) (.t 9)), p_ 4 11 (m_ 10), pg_ 5 12 11 true (m_ 4), pg_ 6 13 11 true (.bin 3 0 (.t 12) (i_ 200)), p_ 7 14 (.pick (.t 11) (.t 13) (.c (.bool false))), p_ 8 15 (m_ 14), pg_ 9 16 15 true (m_ 3), pg_ 10 17 15 true (.bin 3 3 (.t 16) (i_ 0)), p_ 11 18 (.pick (.t 15) (.t 17) (.c (.bool false)))]) (.cond (.t 18) .skip (.exit 2))) (.seq (.block 3 (.seq (g_ 6 [p_ 0 21 (m_ 0), p_ 1 22 (m_ 4), p_ 2 23 (.ixs 18 (.t 21) (.t 22)), r_ 3 24 (.ld true 18 (.t 23)), e_ 4 5 (.al 182 [.int 1 (.ofNat 0), .int 1 (.ofNat 0), .int 2 (.ofNat 0), .int 3 (.ofNat 0), .int 1 (.ofNat 0), .int 1 (.ofNat 0), .int 1 (.ofNat 0), .int 1 (.ofNat 0), .int 1 (.ofNat 0), .int 1 (.ofNat 0), .int 1 (.ofNat 0), .int 3 (.ofNat 0), .nilS, .int 1 (.ofNat 0), .str [], .nilS, .int 1 (.ofNat 0), .int 2 (.ofNat 0)]), e0_ 5 (.st 18 (.t 5) (.t 24))]) (.seq (.seq (g_ 10 [p_ 0 25 (f_ 12 5), r_ 1 26 (l_ 25), c_ 2 27 80 [.t 26], p_ 3 28 (.un 0 (.t 27)), p_ 4 29 (m_ 28), pg_ 5 30 29 false (f_ 15 5), rg_ 6 31 29 false (l_ 30), pg_ 7 32 29 false (k_ 31), pg_ 8 33 29 false (.bin 3 2 (.t 32) (i_ 300)), p_ 9 34 (.pick (.t 29) (.c (.bool true)) (.t 33))]) (.cond (.t 34) (.seq (g_ 1 [p_ 0 2 (.mv (.c (.bool false)))]) .ret) .skip)) (.seq (g_ 15 [p_ 0 35 (m_ 3), p_ 1 36 (.bin 0 1 (.t 35) (i_ 10)), p_ 2 37 (f_ 13 5), p_ 3 38 (f_ 1 37), r_ 4 39 (l_ 38), p_ 5 40 (.len 0 (.t 39)), p_ 6 41 (.mx false (.t 40) (i_ 7000)), p_ 7 42 (.bin 0 1 (.t 36) (.t 41)), p_ 8 43 (f_ 12 5), r_ 9 44 (l_ 43), p_ 10 45 (k_ 44), p_ 11 46 (.mx false (.t 45) (i_ 200)), p_ 12 47 (.bin 0 2 (i_ 30) (.t 46)), p_ 13 48 (.bin 0 1 (.t 42) (.t 47)), p_ 14 3 (m_ 48)]) (.seq (g_ 1 [p_ 0 6 (.mv (i_ 0))]) (.block 4 (.pre [.can 0 [0, 3, 4, 5, 6], .up 3, .up 6, .can 0 [0, 3, 4, 5, 6]] (.inv 1 (.aft (.seq (.seq (g_ 5 [p_ 0 49 (m_ 6), p_ 1 50 (f_ 15 5), r_ 2 51 (l_ 50), p_ 3 52 (k_ 51), p_ 4 53 (.bin 3 0 (.t 49) (.t 52))]) (.cond (.t 53) .skip (.exit 4))) (.seq (.block 5 (h_ 21 [p_ 0 56 (m_ 3), p_ 1 57 (.bin 0 1 (.t 56) (i_ 1)), p_ 2 58 (f_ 15 5), r_ 3 59 (l_ 58), p_ 4 60 (m_ 6), p_ 5 61 (.ixs 3 (.t 59) (.t 60)), p_ 6 62 (f_ 0 61), r_ 7 63 (l_ 62), p_ 8 64 (.len 0 (.t 63)), p_ 9 65 (.mx false (.t 64) (i_ 7000)), p_ 10 66 (.bin 0 1 (.t 57) (.t 65)), p_ 11 67 (f_ 15 5), r_ 12 68 (l_ 67), p_ 13 69 (m_ 6), p_ 14 70 (.ixs 3 (.t 68) (.t 69)), p_ 15 71 (f_ 1 70), r_ 16 72 (l_ 71), p_ 17 73 (.len 0 (.t 72)), p_ 18 74 (.mx false (.t 73) (i_ 7000)), p_ 19 75 (.bin 0 1 (.t 66) (.t 74)), p_ 20 3 (m_ 75)])) (g_ 3 [p_ 0 54 (m_ 6), p_ 1 55 (.bin 0 0 (.t 54) (i_ 1)), p_ 2 6 (m_ 55)]))) [(0, [.can 0 [0, 3, 4, 5, 6]]), (4, [.can 0 [0, 3, 4]])]))))))))) (g_ 3 [p_ 0 19 (m_ 4), p_ 1 20 (.bin 0 0 (.t 19) (i_ 1)), p_ 2 4 (m_ 20)]))) [(0, [.can 0 [0, 3, 4]]), (1, [.can 0 [2]]), (2, [.can 0 [0, 3]])])
theorem vb_l_li5 (p : A_l_li5) (K : KC) (hpre : pre_l_li5 p) (hK : out_l_li5 p K = true) : (codeX (cfT nat_li3) lp_li5 600 bd_l_li5 (I_l_li5 p).1 (I_l_li5 p).2.1 (I_l_li5 p).2.2 (fun e S M nx => Nat.casesOn e (exB fun q : A_l_li5 => must (prB ((S, M, nx) = I_l_li5 q ∧ mu_l_li5 q < mu_l_li5 p)) (sp_l_li5 q K)) (fun e2 => K (Nat.succ e2) S M nx))) = true := by
 refine Eq.trans (b := (let z0 : Bool := (K 2 (.cons 3 (.sy (.int 0 p.left)) (.cons 0 (.sy (.imm p.h 18 EnR p.l encE)) .nil)) .leaf 0); iP (p.i < (p.l.length : Int)) (iP (p.i < (200 : Int)) (iP ((0 : Int) ≤ p.left) (mP (0 ≤ p.i ∧ p.i < (p.l.length : Int)) (allB fun x1 : EnR => iP (p.l[p.i.toNat]? = some x1) (exB fun p1 : A_li3 => mP (([.sy (.imm x1.hp 5 PtR x1.ps encP)], .leaf, 0) = I_li3 p1) (allB fun r1 : R_li3 => iP (¬ r1.q) (K 1 (.cons 2 (.bool false) .nil) .leaf 0) (iP ((300 : Int) < (x1.ws.length : Int)) (K 1 (.cons 2 (.bool false) .nil) .leaf 0) (mP (InR 0 (p.left - (10 : Int))) (mP (InR 0 ((p.left - (10 : Int)) - (min (x1.rv.length : Int) (7000 : Int)))) (mP (InR 0 ((30 : Int) * (min (x1.ps.length : Int) (200 : Int)))) (mP (InR 0 (((p.left - (10 : Int)) - (min (x1.rv.length : Int) (7000 : Int))) - ((30 : Int) * (min (x1.ps.length : Int) (200 : Int))))) (useC (((.cons 6 (.sy (.int 0 0)) (.cons 5 (.ptr 0 0) (.cons 4 (.sy (.int 0 p.i)) (.cons 3 (.sy (.int 0 (((p.left - (10 : Int)) - (min (x1.rv.length : Int) (7000 : Int))) - ((30 : Int) * (min (x1.ps.length : Int) (200 : Int)))))) (.cons 0 (.sy (.imm p.h 18 EnR p.l encE)) .nil))))), (.node .leaf (some (.blk false 182 18 [[.sy (.int 1 x1.kind), .sy (.int 1 x1.cn), .sy (.int 2 x1.cl), .sy (.int 3 x1.seq), .sy (.int 1 x1.dep), .sy (.int 1 x1.p0), .sy (.int 1 x1.p1), .sy (.int 1 x1.p2), .sy (.int 1 x1.p3), .sy (.int 1 x1.p4), .sy (.int 1 x1.p5), .sy (.int 3 x1.fl), .sy (.imm x1.hp 5 PtR x1.ps encP), .sy (.int 1 x1.code), .sy (.str x1.rv), .sy (.imm x1.hw 3 WrR x1.ws encW), .sy (.int 1 x1.vn), .sy (.int 2 x1.vl)]])) .leaf), 1)) I_l_li5b pre_l_li5b po_l_li5b fun p2 r2 => mP (InR 0 (p2.i + (1 : Int))) (exB fun q1 : A_l_li5 => mP (((.cons 4 (.sy (.int 0 (p2.i + (1 : Int)))) (.cons 3 (.sy (.int 0 r2.left)) (.cons 0 (.sy (.imm p2.h 18 EnR p2.l encE)) .nil))), .leaf, 0) = I_l_li5 q1 ∧ mu_l_li5 q1 < mu_l_li5 p) (sp_l_li5 q1 K)))))))))) true)) z0) z0) z0)) (by kernel_rfl) ?_
 obtain ⟨hK0, hKr0⟩ := must_ok hK
 have hK1 := hKr0
 dsimp only [pre_l_li5] at hpre
 obtain ⟨g0, g1, g2, g3, g4, g6⟩ := hpre
 refine iI (fun hc1 => ?_) (fun hc1 => ?_)
 refine iI (fun hc2 => ?_) (fun hc2 => ?_)
 refine iI (fun hc3 => ?_) (fun hc3 => ?_)
 refine mI (by first | omega | (constructor <;> omega)) ?_
 refine allB_mk (fun x1 => ?_)
 refine iI (fun hi4 => ?_) (fun _ => rfl)
 refine exB_mk (⟨x1.hp, x1.ps⟩ : A_li3) (mI rfl ?_)
 refine allB_mk (fun r1 => ?_)
 refine iI (fun hc5 => ?_) (fun hc5 => ?_)
 exact hK1
 refine iI (fun hc6 => ?_) (fun hc6 => ?_)
 exact hK1
 refine mI (by simp only [InR]; omega) (mI (by simp only [InR]; omega) (mI (by simp only [InR]; omega) (mI (by simp only [InR]; omega) ?_)))
 refine callPR (⟨p.h, p.l, ((p.left - (10 : Int)) - (min (x1.rv.length : Int) (7000 : Int))) - ((30 : Int) * (min (x1.ps.length : Int) (200 : Int))), p.i, x1, (0 : Int)⟩ : A_l_li5b) rfl (by (try dsimp only [pre_l_li5b]); omega) fun r2 hi7 => ?_
 dsimp only [po_l_li5b] at hi7
 refine mI (by simp only [InR]; omega) ?_
 exact bk_l_li5 (q := ⟨p.h, p.l, r2.left, p.i + (1 : Int)⟩) (by dsimp only [mu_l_li5]; omega) (by dsimp only [pre_l_li5]; exact ⟨by omega, by omega, by omega, by omega, by omega, okI_step g6 (by omega) (by assumption) (by omega) (fun z => by omega)⟩) (by first | exact hK | exact must_mk hK0 hK1) rfl
 exact ifB_use (show 0 ≤ p.left → p.l.length ≤ 150 → okE p.l from (by intro z1 z2; first | exact okE_of g6 z1 z2 (by omega) | (exfalso; omega))) (allB_ok hK0 (⟨p.left⟩ : R_l_li5))
 exact ifB_use (show 0 ≤ p.left → p.l.length ≤ 150 → okE p.l from (by intro z1 z2; first | exact okE_of g6 z1 z2 (by omega) | (exfalso; omega))) (allB_ok hK0 (⟨p.left⟩ : R_l_li5))
 exact ifB_use (show 0 ≤ p.left → p.l.length ≤ 150 → okE p.l from (by intro z1 z2; first | exact okE_of g6 z1 z2 (by omega) | (exfalso; omega))) (allB_ok hK0 (⟨p.left⟩ : R_l_li5))
theorem lo_l_li5 : LpOk Tryz.prog 83 0 lp_li5 true 0 bd_l_li5 := by
 exact lp_of (lf := 600) tz_mix (cfT_ok nat_li3_ok) (by rfl) I_l_li5 mu_l_li5 sp_l_li5 (fun b j x h => (mem_step lo_l_li5b (fun h => (by cases h)) h)) (fun S M nx K h => by obtain ⟨p, h⟩ := exB_ok h; exact ⟨p, (mustP_ok h).1, (mustP_ok h).2⟩) (fun p K h => vb_l_li5 p K (mustP_ok h).1 (mustP_ok h).2)
structure A_li5 where
 h : Value
 l : List EnR
structure R_li5 where
 q : Prop
def po_li5 (p : A_li5) (r : R_li5) : Prop := r.q → okE p.l
noncomputable def I_li5 (p : A_li5) : IE := ([.sy (.imm p.h 18 EnR p.l encE)], .leaf, 0)
noncomputable def out_li5 (p : A_li5) (K : KE) : Bool := allB fun r : R_li5 => iP (po_li5 p r) (K (.sy (.bool r.q)) .leaf 0) true
theorem fin_li5 {p : A_li5} {K : KE} (hK : out_li5 p K = true) (r : R_li5) (h : po_li5 p r) : K (.sy (.bool r.q)) .leaf 0 = true := ifB_use h (allB_ok hK r)
theorem vf_li5 (p : A_li5) (K : KE) (hK : out_li5 p K = true) : (funE 0 (cfT nat_li3) lp_li5 600 ft_li5 (I_li5 p).1 (I_li5 p).2.1 (I_li5 p).2.2 K) = true := by
 refine Eq.trans (b := (exB fun p1 : A_l_li5 => mP (((.cons 4 (.sy (.int 0 0)) (.cons 3 (.sy (.int 0 6000)) (.cons 0 (.sy (.imm p.h 18 EnR p.l encE)) .nil))), .leaf, 0) = I_l_li5 p1) (mP (pre_l_li5 p1) (must (allB fun r1 : R_l_li5 => iP (po_l_li5 p1 r1) (iP ((0 : Int) ≤ r1.left) (K (.sy (.bool ((p1.l.length : Int) ≤ (150 : Int)))) .leaf 0) (K (.sy (.bool (false = true))) .leaf 0)) true) (K (.sy (.bool (false = true))) .leaf 0))))) (by kernel_rfl) ?_
 refine callP (⟨p.h, p.l, (6000 : Int), (0 : Int)⟩ : A_l_li5) rfl (by (try dsimp only [pre_l_li5]); exact ⟨by omega, by omega, by omega, by omega, by omega, fun _ j x h1 h2 => by omega⟩) ?_
 refine must_mk ?_ ?_
 refine allB_mk (fun r1 => ?_)
 refine iI (p := 0 ≤ r1.left → p.l.length ≤ 150 → okE p.l) (fun hi1 => ?_) (fun _ => rfl)
 refine iI (fun hc2 => ?_) (fun hc2 => ?_)
 exact fin_li5 hK ⟨(p.l.length : Int) ≤ (150 : Int)⟩ (by dsimp only [po_li5] <;> (first | (intro z; cases z; done) | (intro z; exact hi1 (by first | assumption | omega) (by omega)) | (intro z; exfalso; omega)))
 exact fin_li5 hK ⟨false = true⟩ (by dsimp only [po_li5] <;> (first | (intro z; cases z; done) | (intro z; exact hi1 (by first | assumption | omega) (by omega)) | (intro z; exfalso; omega)))
 exact fin_li5 hK ⟨false = true⟩ (by dsimp only [po_li5] <;> (first | (intro z; cases z; done) | (intro z; exact hi0 (by first | assumption | omega) (by omega)) | (intro z; exfalso; omega)))
noncomputable def nat_li5 := natC nat_li3 0 (esOf I_li5 out_li5) 81 [(0, 23)]
theorem nat_li5_ok : NatsOk Tryz.prog nat_li5 := natC_ok (natE_said (f := 81) (k := 0) (lp := lp_li5) (lf := 600) tz_mix (cfT_ok nat_li3_ok) ft_li5_ok (by rfl) (fun b j x h => (mem_step lo_l_li5 (fun h => (by cases h)) h)) fun p K h => vf_li5 p K h) nat_li3_ok
def ft_parts : XF := .mk 20 (.one 2) (.aft (.seq (g_ 1 [p_ 0 2 (.mv (.c .nilS))]) (.seq (g_ 1 [p_ 0 3 (.mv (.c .nilS))]) (.seq (.seq (g_ 1 [p_ 0 4 (.mv (i_ 0))]) (.block 2 (.pre [.can 0 [0, 3, 4], .born 3 176 5 PtR encP, .up 4, .can 0 [0, 3, 4]] (.inv 0 (.aft (.seq (.seq (g_ 4 [p_ 0 5 (m_ 4), p_ 1 6 (m_ 0), p_ 2 7 (k_ 6), p_ 3 8 (.bin 3 0 (.t 5) (.t 7))]) (.cond (.t 8) .skip (.exit 2))) (.seq (.block 3 (g_ 9 [p_ 0 11 (m_ 3), p_ 1 12 (m_ 0), p_ 2 13 (m_ 4), p_ 3 14 (.ixs 5 (.t 12) (.t 13)), r_ 4 15 (.ld true 5 (.t 14)), c_ 5 16 120 [.t 15], e_ 6 17 (.bsl 176 5 1 [.int 1 (.ofNat 0), .int 1 (.ofNat 0), .str [], .str [], .int 0 (.ofNat 0)] [(0, 5)] [.t 16]), e_ 7 18 (.app 176 5 48 (.t 11) (.t 17)), p_ 8 3 (m_ 18)])) (g_ 3 [p_ 0 9 (m_ 4), p_ 1 10 (.bin 0 0 (.t 9) (i_ 1)), p_ 2 4 (m_ 10)]))) [(0, [.can 0 [0, 3, 4]]), (2, [.can 0 [3]])]))))) (.seq (g_ 2 [p_ 0 19 (m_ 3), p_ 1 2 (m_ 19)]) .ret)))) [(0, [.frz 2]), (1, [.frz 2])])
theorem ft_parts_ok : chkF Tryz.prog 66 ft_parts = true := by kernel_rfl
structure A_l_parts where
 h : Value
 l : List PtR
 o : List PtR
 i : Int
structure R_l_parts where
 o : List PtR
noncomputable def I_l_parts (p : A_l_parts) : IL := ((.cons 4 (.sy (.int 0 p.i)) (.cons 3 (.sy (.prow 0 p.o.length)) (.cons 0 (.sy (.imm p.h 5 PtR p.l encP)) .nil))), (.node .leaf (some (.prow 176 5 PtR p.o encP)) .leaf), 1)
noncomputable def out_l_parts (p : A_l_parts) (K : KC) : Bool := allB fun r : R_l_parts => K 2 (.cons 3 (.sy (.prow 0 r.o.length)) .nil) (.node .leaf (some (.prow 176 5 PtR r.o encP)) .leaf) 1
def pre_l_parts (p : A_l_parts) : Prop := p.l.length ≤ 2932031007402 ∧ 0 ≤ p.i ∧ p.i ≤ (p.l.length : Int) ∧ (p.o.length : Int) = p.i
noncomputable def sp_l_parts (p : A_l_parts) (K : KC) : Bool := must (prB (pre_l_parts p)) (out_l_parts p K)
noncomputable def lp_parts : LpF := fun j S M nx K => (Bool.rec (false) (exB fun p : A_l_parts => must (prB ((S, M, nx) = I_l_parts p)) (sp_l_parts p K)) (Nat.beq j 0))
def mu_l_parts (p : A_l_parts) : Nat := ((p.l.length : Int) - p.i).toNat
theorem bk_l_parts {p q : A_l_parts} {K : KC} {s : IL} (hm : mu_l_parts q < mu_l_parts p) (hp : pre_l_parts q) (hK : out_l_parts q K = true) (e : s = I_l_parts q) : (exB fun q => mP (s = I_l_parts q ∧ mu_l_parts q < mu_l_parts p) (sp_l_parts q K)) = true := exB_mk q (mustP ⟨e, hm⟩ (mustP hp hK))
def bd_l_parts : XC := (.aft (.seq (.seq (g_ 4 [p_ 0 5 (m_ 4), p_ 1 6 (m_ 0), p_ 2 7 (k_ 6), p_ 3 8 (.bin 3 0 (.t 5) (.t 7))]) (.cond (.t 8) .skip (.exit 2))) (.seq (.block 3 (g_ 9 [p_ 0 11 (m_ 3), p_ 1 12 (m_ 0), p_ 2 13 (m_ 4), p_ 3 14 (.ixs 5 (.t 12) (.t 13)), r_ 4 15 (.ld true 5 (.t 14)), c_ 5 16 120 [.t 15], e_ 6 17 (.bsl 176 5 1 [.int 1 (.ofNat 0), .int 1 (.ofNat 0), .str [], .str [], .int 0 (.ofNat 0)] [(0, 5)] [.t 16]), e_ 7 18 (.app 176 5 48 (.t 11) (.t 17)), p_ 8 3 (m_ 18)])) (g_ 3 [p_ 0 9 (m_ 4), p_ 1 10 (.bin 0 0 (.t 9) (i_ 1)), p_ 2 4 (m_ 10)]))) [(0, [.can 0 [0, 3, 4]]), (2, [.can 0 [3]])])
theorem vb_l_parts (p : A_l_parts) (K : KC) (hpre : pre_l_parts p) (hK : out_l_parts p K = true) : (codeX (cfT nat_li5) lp_parts 600 bd_l_parts (I_l_parts p).1 (I_l_parts p).2.1 (I_l_parts p).2.2 (fun e S M nx => Nat.casesOn e (exB fun q : A_l_parts => must (prB ((S, M, nx) = I_l_parts q ∧ mu_l_parts q < mu_l_parts p)) (sp_l_parts q K)) (fun e2 => K (Nat.succ e2) S M nx))) = true := by
 refine Eq.trans (b := (iP (p.i < (p.l.length : Int)) (mP (0 ≤ p.i ∧ p.i < (p.l.length : Int)) (allB fun x1 : PtR => iP (p.l[p.i.toNat]? = some x1) (mP (p.o.length = p.o.length) (exB fun m1 : List PtR => mP (rowsR (m1.map encP) [[.sint 1 x1.g, .sint 1 x1.k, .sstr x1.key, .sstr x1.val, .sint 0 x1.n]]) (mP (limP 48 (p.o.length + m1.length)) (mP (InR 0 (p.i + (1 : Int))) (exB fun q1 : A_l_parts => mP (((.cons 4 (.sy (.int 0 (p.i + (1 : Int)))) (.cons 3 (.sy (.prow 0 ((p.o ++ m1).length))) (.cons 0 (.sy (.imm p.h 5 PtR p.l encP)) .nil))), (.node .leaf (some (.prow 176 5 PtR (p.o ++ m1) encP)) .leaf), 1) = I_l_parts q1 ∧ mu_l_parts q1 < mu_l_parts p) (sp_l_parts q1 K)))))) true)) (K 2 (.cons 3 (.sy (.prow 0 p.o.length)) .nil) (.node .leaf (some (.prow 176 5 PtR p.o encP)) .leaf) 1))) (by kernel_rfl) ?_
 dsimp only [pre_l_parts] at hpre
 obtain ⟨g0, g1, g2, g3⟩ := hpre
 refine iI (fun hc1 => ?_) (fun hc1 => ?_)
 refine mI (by first | omega | (constructor <;> omega)) ?_
 refine allB_mk (fun x1 => ?_)
 refine iI (fun hi2 => ?_) (fun _ => rfl)
 refine mI (rfl) ?_
 refine exB_mk [⟨x1.g, x1.k, x1.key, x1.val, x1.n⟩] ?_
 refine mI (show rowsR ([⟨x1.g, x1.k, x1.key, x1.val, x1.n⟩].map encP) [[.sint 1 x1.g, .sint 1 x1.k, .sstr x1.key, .sstr x1.val, .sint 0 x1.n]] from ⟨⟨.inl rfl, ⟨.inl rfl, ⟨.inl rfl, ⟨.inl rfl, ⟨.inl rfl, trivial⟩⟩⟩⟩⟩, trivial⟩) (mI (by (try dsimp only); (first | omega | (simp [limP] <;> omega))) (mI (by simp only [InR]; omega) ?_))
 exact bk_l_parts (q := ⟨p.h, p.l, p.o ++ [⟨x1.g, x1.k, x1.key, x1.val, x1.n⟩], p.i + (1 : Int)⟩) (by dsimp only [mu_l_parts]; omega) (by dsimp only [pre_l_parts]; exact ⟨g0, by omega, by omega, by simp; omega⟩) hK rfl
 exact allB_ok hK (⟨p.o⟩ : R_l_parts)
theorem lo_l_parts : LpOk Tryz.prog 20 0 lp_parts true 0 bd_l_parts := by
 exact lp_of (lf := 600) tz_mix (cfT_ok nat_li5_ok) (by rfl) I_l_parts mu_l_parts sp_l_parts (fun b j x h => by cases h) (fun S M nx K h => by obtain ⟨p, h⟩ := exB_ok h; exact ⟨p, (mustP_ok h).1, (mustP_ok h).2⟩) (fun p K h => vb_l_parts p K (mustP_ok h).1 (mustP_ok h).2)
structure A_parts where
 h : Value
 l : List PtR
structure R_parts where
 h : Value
 o : List PtR
noncomputable def I_parts (p : A_parts) : IE := ([.sy (.imm p.h 5 PtR p.l encP)], .leaf, 0)
noncomputable def out_parts (p : A_parts) (K : KE) : Bool := allB fun r : R_parts => K (.sy (.imm r.h 5 PtR r.o encP)) .leaf 0
def pre_parts (p : A_parts) : Prop := p.l.length ≤ 2932031007402
theorem vf_parts (p : A_parts) (K : KE) (hpre : pre_parts p) (hK : out_parts p K = true) : (funE 0 (cfT nat_li5) lp_parts 600 ft_parts (I_parts p).1 (I_parts p).2.1 (I_parts p).2.2 K) = true := by
 refine Eq.trans (b := (exB fun p1 : A_l_parts => mP (((.cons 4 (.sy (.int 0 0)) (.cons 3 (.sy (.prow 0 0)) (.cons 0 (.sy (.imm p.h 5 PtR p.l encP)) .nil))), (.node .leaf (some (.prow 176 5 PtR ([] : List PtR) encP)) .leaf), 1) = I_l_parts p1) (mP (pre_l_parts p1) (allB fun r1 : R_l_parts => mP (r1.o.length = r1.o.length) (allB fun h1 : Value => K (.sy (.imm h1 5 PtR r1.o encP)) .leaf 0))))) (by kernel_rfl) ?_
 dsimp only [pre_parts] at hpre
 refine callP (⟨p.h, p.l, ([] : List PtR), (0 : Int)⟩ : A_l_parts) rfl (by (try dsimp only [pre_l_parts]); exact ⟨by assumption, by omega, by omega, by simp⟩) ?_
 refine allB_mk (fun r1 => ?_)
 refine mI (rfl) ?_
 refine allB_mk (fun h1 => ?_)
 exact allB_ok hK (⟨h1, r1.o⟩ : R_parts)
noncomputable def nat_parts := natC nat_li5 0 (esOf I_parts (spP pre_parts out_parts)) 66 [(0, 23)]
theorem nat_parts_ok : NatsOk Tryz.prog nat_parts := natC_ok (natE_said (f := 66) (k := 0) (lp := lp_parts) (lf := 600) tz_mix (cfT_ok nat_li5_ok) ft_parts_ok (by rfl) (fun b j x h => (mem_step lo_l_parts (fun h => (by cases h)) h)) fun p K h => vf_parts p K (mustP_ok h).1 (mustP_ok h).2) nat_li5_ok
def ft_writes : XF := .mk 31 (.one 2) (.aft (.seq (g_ 1 [p_ 0 2 (.mv (.c .nilS))]) (.seq (g_ 1 [p_ 0 3 (.mv (.c .nilS))]) (.seq (.seq (g_ 1 [p_ 0 4 (.mv (i_ 0))]) (.block 2 (.pre [.can 0 [0, 3, 4], .born 3 144 3 WrR encW, .up 4, .can 0 [0, 3, 4]] (.inv 0 (.aft (.seq (.seq (g_ 4 [p_ 0 5 (m_ 4), p_ 1 6 (m_ 0), p_ 2 7 (k_ 6), p_ 3 8 (.bin 3 0 (.t 5) (.t 7))]) (.cond (.t 8) .skip (.exit 2))) (.seq (.block 3 (h_ 20 [p_ 0 11 (m_ 3), p_ 1 12 (m_ 0), p_ 2 13 (m_ 4), p_ 3 14 (.ixs 3 (.t 12) (.t 13)), p_ 4 15 (f_ 0 14), r_ 5 16 (l_ 15), p_ 6 17 (m_ 0), p_ 7 18 (m_ 4), p_ 8 19 (.ixs 3 (.t 17) (.t 18)), p_ 9 20 (f_ 1 19), r_ 10 21 (l_ 20), p_ 11 22 (m_ 0), p_ 12 23 (m_ 4), p_ 13 24 (.ixs 3 (.t 22) (.t 23)), p_ 14 25 (f_ 2 24), r_ 15 26 (l_ 25), p_ 16 27 (.bld [.str [], .str [], .bool false] [(0, 1), (1, 1), (2, 1)] [.t 16, .t 21, .t 26]), e_ 17 28 (.bsl 144 3 1 [.str [], .str [], .bool false] [(0, 3)] [.t 27]), e_ 18 29 (.app 144 3 40 (.t 11) (.t 28)), p_ 19 3 (m_ 29)])) (g_ 3 [p_ 0 9 (m_ 4), p_ 1 10 (.bin 0 0 (.t 9) (i_ 1)), p_ 2 4 (m_ 10)]))) [(0, [.can 0 [0, 3, 4]]), (2, [.can 0 [3]])]))))) (.seq (g_ 2 [p_ 0 30 (m_ 3), p_ 1 2 (m_ 30)]) .ret)))) [(0, [.frz 2]), (1, [.frz 2])])
theorem ft_writes_ok : chkF Tryz.prog 155 ft_writes = true := by kernel_rfl
structure A_l_writes where
 h : Value
 l : List WrR
 o : List WrR
 i : Int
structure R_l_writes where
 o : List WrR
noncomputable def I_l_writes (p : A_l_writes) : IL := ((.cons 4 (.sy (.int 0 p.i)) (.cons 3 (.sy (.prow 0 p.o.length)) (.cons 0 (.sy (.imm p.h 3 WrR p.l encW)) .nil))), (.node .leaf (some (.prow 144 3 WrR p.o encW)) .leaf), 1)
noncomputable def out_l_writes (p : A_l_writes) (K : KC) : Bool := allB fun r : R_l_writes => K 2 (.cons 3 (.sy (.prow 0 r.o.length)) .nil) (.node .leaf (some (.prow 144 3 WrR r.o encW)) .leaf) 1
def pre_l_writes (p : A_l_writes) : Prop := p.l.length ≤ 300 ∧ 0 ≤ p.i ∧ p.i ≤ (p.l.length : Int) ∧ (p.o.length : Int) = p.i
noncomputable def sp_l_writes (p : A_l_writes) (K : KC) : Bool := must (prB (pre_l_writes p)) (out_l_writes p K)
noncomputable def lp_writes : LpF := fun j S M nx K => (Bool.rec (false) (exB fun p : A_l_writes => must (prB ((S, M, nx) = I_l_writes p)) (sp_l_writes p K)) (Nat.beq j 0))
def mu_l_writes (p : A_l_writes) : Nat := ((p.l.length : Int) - p.i).toNat
theorem bk_l_writes {p q : A_l_writes} {K : KC} {s : IL} (hm : mu_l_writes q < mu_l_writes p) (hp : pre_l_writes q) (hK : out_l_writes q K = true) (e : s = I_l_writes q) : (exB fun q => mP (s = I_l_writes q ∧ mu_l_writes q < mu_l_writes p) (sp_l_writes q K)) = true := exB_mk q (mustP ⟨e, hm⟩ (mustP hp hK))
def bd_l_writes : XC := (.aft (.seq (.seq (g_ 4 [p_ 0 5 (m_ 4), p_ 1 6 (m_ 0), p_ 2 7 (k_ 6), p_ 3 8 (.bin 3 0 (.t 5) (.t 7))]) (.cond (.t 8) .skip (.exit 2))) (.seq (.block 3 (h_ 20 [p_ 0 11 (m_ 3), p_ 1 12 (m_ 0), p_ 2 13 (m_ 4), p_ 3 14 (.ixs 3 (.t 12) (.t 13)), p_ 4 15 (f_ 0 14), r_ 5 16 (l_ 15), p_ 6 17 (m_ 0), p_ 7 18 (m_ 4), p_ 8 19 (.ixs 3 (.t 17) (.t 18)), p_ 9 20 (f_ 1 19), r_ 10 21 (l_ 20), p_ 11 22 (m_ 0), p_ 12 23 (m_ 4), p_ 13 24 (.ixs 3 (.t 22) (.t 23)), p_ 14 25 (f_ 2 24), r_ 15 26 (l_ 25), p_ 16 27 (.bld [.str [], .str [], .bool false] [(0, 1), (1, 1), (2, 1)] [.t 16, .t 21, .t 26]), e_ 17 28 (.bsl 144 3 1 [.str [], .str [], .bool false] [(0, 3)] [.t 27]), e_ 18 29 (.app 144 3 40 (.t 11) (.t 28)), p_ 19 3 (m_ 29)])) (g_ 3 [p_ 0 9 (m_ 4), p_ 1 10 (.bin 0 0 (.t 9) (i_ 1)), p_ 2 4 (m_ 10)]))) [(0, [.can 0 [0, 3, 4]]), (2, [.can 0 [3]])])
theorem vb_l_writes (p : A_l_writes) (K : KC) (hpre : pre_l_writes p) (hK : out_l_writes p K = true) : (codeX (cfT nat_parts) lp_writes 600 bd_l_writes (I_l_writes p).1 (I_l_writes p).2.1 (I_l_writes p).2.2 (fun e S M nx => Nat.casesOn e (exB fun q : A_l_writes => must (prB ((S, M, nx) = I_l_writes q ∧ mu_l_writes q < mu_l_writes p)) (sp_l_writes q K)) (fun e2 => K (Nat.succ e2) S M nx))) = true := by
 refine Eq.trans (b := (iP (p.i < (p.l.length : Int)) (mP (0 ≤ p.i ∧ p.i < (p.l.length : Int)) (allB fun x1 : WrR => iP (p.l[p.i.toNat]? = some x1) (mP (0 ≤ p.i ∧ p.i < (p.l.length : Int)) (allB fun x2 : WrR => iP (p.l[p.i.toNat]? = some x2) (mP (0 ≤ p.i ∧ p.i < (p.l.length : Int)) (allB fun x3 : WrR => iP (p.l[p.i.toNat]? = some x3) (mP (p.o.length = p.o.length) (exB fun m1 : List WrR => mP (rowsR (m1.map encW) [[.sstr x1.key, .sstr x2.val, .sbool x3.d]]) (mP (limP 40 (p.o.length + m1.length)) (mP (InR 0 (p.i + (1 : Int))) (exB fun q1 : A_l_writes => mP (((.cons 4 (.sy (.int 0 (p.i + (1 : Int)))) (.cons 3 (.sy (.prow 0 ((p.o ++ m1).length))) (.cons 0 (.sy (.imm p.h 3 WrR p.l encW)) .nil))), (.node .leaf (some (.prow 144 3 WrR (p.o ++ m1) encW)) .leaf), 1) = I_l_writes q1 ∧ mu_l_writes q1 < mu_l_writes p) (sp_l_writes q1 K)))))) true)) true)) true)) (K 2 (.cons 3 (.sy (.prow 0 p.o.length)) .nil) (.node .leaf (some (.prow 144 3 WrR p.o encW)) .leaf) 1))) (by kernel_rfl) ?_
 dsimp only [pre_l_writes] at hpre
 obtain ⟨g0, g1, g2, g3⟩ := hpre
 refine iI (fun hc1 => ?_) (fun hc1 => ?_)
 refine mI (by first | omega | (constructor <;> omega)) ?_
 refine allB_mk (fun x1 => ?_)
 refine iI (fun hi2 => ?_) (fun _ => rfl)
 refine mI (by first | omega | (constructor <;> omega)) ?_
 refine allB_mk (fun x2 => ?_)
 refine iI (fun hi3 => ?_) (fun _ => rfl)
 refine mI (by first | omega | (constructor <;> omega)) ?_
 refine allB_mk (fun x3 => ?_)
 refine iI (fun hi4 => ?_) (fun _ => rfl)
 refine mI (rfl) ?_
 refine exB_mk [⟨x1.key, x2.val, x3.d⟩] ?_
 refine mI (show rowsR ([⟨x1.key, x2.val, x3.d⟩].map encW) [[.sstr x1.key, .sstr x2.val, .sbool x3.d]] from ⟨⟨.inl rfl, ⟨.inl rfl, ⟨.inl rfl, trivial⟩⟩⟩, trivial⟩) (mI (by (try dsimp only); (first | omega | (simp [limP] <;> omega))) (mI (by simp only [InR]; omega) ?_))
 exact bk_l_writes (q := ⟨p.h, p.l, p.o ++ [⟨x1.key, x2.val, x3.d⟩], p.i + (1 : Int)⟩) (by dsimp only [mu_l_writes]; omega) (by dsimp only [pre_l_writes]; exact ⟨g0, by omega, by omega, by simp; omega⟩) hK rfl
 exact allB_ok hK (⟨p.o⟩ : R_l_writes)
theorem lo_l_writes : LpOk Tryz.prog 31 0 lp_writes true 0 bd_l_writes := by
 exact lp_of (lf := 600) tz_mix (cfT_ok nat_parts_ok) (by rfl) I_l_writes mu_l_writes sp_l_writes (fun b j x h => by cases h) (fun S M nx K h => by obtain ⟨p, h⟩ := exB_ok h; exact ⟨p, (mustP_ok h).1, (mustP_ok h).2⟩) (fun p K h => vb_l_writes p K (mustP_ok h).1 (mustP_ok h).2)
structure A_writes where
 h : Value
 l : List WrR
structure R_writes where
 h : Value
 o : List WrR
noncomputable def I_writes (p : A_writes) : IE := ([.sy (.imm p.h 3 WrR p.l encW)], .leaf, 0)
noncomputable def out_writes (p : A_writes) (K : KE) : Bool := allB fun r : R_writes => K (.sy (.imm r.h 3 WrR r.o encW)) .leaf 0
def pre_writes (p : A_writes) : Prop := p.l.length ≤ 300
theorem vf_writes (p : A_writes) (K : KE) (hpre : pre_writes p) (hK : out_writes p K = true) : (funE 0 (cfT nat_parts) lp_writes 600 ft_writes (I_writes p).1 (I_writes p).2.1 (I_writes p).2.2 K) = true := by
 refine Eq.trans (b := (exB fun p1 : A_l_writes => mP (((.cons 4 (.sy (.int 0 0)) (.cons 3 (.sy (.prow 0 0)) (.cons 0 (.sy (.imm p.h 3 WrR p.l encW)) .nil))), (.node .leaf (some (.prow 144 3 WrR ([] : List WrR) encW)) .leaf), 1) = I_l_writes p1) (mP (pre_l_writes p1) (allB fun r1 : R_l_writes => mP (r1.o.length = r1.o.length) (allB fun h1 : Value => K (.sy (.imm h1 3 WrR r1.o encW)) .leaf 0))))) (by kernel_rfl) ?_
 dsimp only [pre_writes] at hpre
 refine callP (⟨p.h, p.l, ([] : List WrR), (0 : Int)⟩ : A_l_writes) rfl (by (try dsimp only [pre_l_writes]); exact ⟨by assumption, by omega, by omega, by simp⟩) ?_
 refine allB_mk (fun r1 => ?_)
 refine mI (rfl) ?_
 refine allB_mk (fun h1 => ?_)
 exact allB_ok hK (⟨h1, r1.o⟩ : R_writes)
noncomputable def nat_writes := natC nat_parts 0 (esOf I_writes (spP pre_writes out_writes)) 155 [(0, 23)]
theorem nat_writes_ok : NatsOk Tryz.prog nat_writes := natC_ok (natE_said (f := 155) (k := 0) (lp := lp_writes) (lf := 600) tz_mix (cfT_ok nat_parts_ok) ft_writes_ok (by rfl) (fun b j x h => (mem_step lo_l_writes (fun h => (by cases h)) h)) fun p K h => vf_writes p K (mustP_ok h).1 (mustP_ok h).2) nat_parts_ok
def ft_procs : XF := .mk 20 (.one 2) (.aft (.seq (g_ 1 [p_ 0 2 (.mv (.c .nilS))]) (.seq (g_ 1 [p_ 0 3 (.mv (.c .nilS))]) (.seq (.seq (g_ 1 [p_ 0 4 (.mv (i_ 0))]) (.block 2 (.pre [.can 0 [0, 3, 4], .born 3 52 2 PrR encR, .up 4, .can 0 [0, 3, 4]] (.inv 0 (.aft (.seq (.seq (g_ 4 [p_ 0 5 (m_ 4), p_ 1 6 (m_ 0), p_ 2 7 (k_ 6), p_ 3 8 (.bin 3 0 (.t 5) (.t 7))]) (.cond (.t 8) .skip (.exit 2))) (.seq (.block 3 (g_ 9 [p_ 0 11 (m_ 3), p_ 1 12 (m_ 0), p_ 2 13 (m_ 4), p_ 3 14 (.ixs 2 (.t 12) (.t 13)), r_ 4 15 (.ld true 2 (.t 14)), c_ 5 16 26 [.t 15], e_ 6 17 (.bsl 52 2 1 [.int 1 (.ofNat 0), .int 2 (.ofNat 0)] [(0, 2)] [.t 16]), e_ 7 18 (.app 52 2 4 (.t 11) (.t 17)), p_ 8 3 (m_ 18)])) (g_ 3 [p_ 0 9 (m_ 4), p_ 1 10 (.bin 0 0 (.t 9) (i_ 1)), p_ 2 4 (m_ 10)]))) [(0, [.can 0 [0, 3, 4]]), (2, [.can 0 [3]])]))))) (.seq (g_ 2 [p_ 0 19 (m_ 3), p_ 1 2 (m_ 19)]) .ret)))) [(0, [.frz 2]), (1, [.frz 2])])
theorem ft_procs_ok : chkF Tryz.prog 69 ft_procs = true := by kernel_rfl
structure A_l_procs where
 h : Value
 l : List PrR
 o : List PrR
 i : Int
structure R_l_procs where
 o : List PrR
noncomputable def I_l_procs (p : A_l_procs) : IL := ((.cons 4 (.sy (.int 0 p.i)) (.cons 3 (.sy (.prow 0 p.o.length)) (.cons 0 (.sy (.imm p.h 2 PrR p.l encR)) .nil))), (.node .leaf (some (.prow 52 2 PrR p.o encR)) .leaf), 1)
noncomputable def out_l_procs (p : A_l_procs) (K : KC) : Bool := allB fun r : R_l_procs => K 2 (.cons 3 (.sy (.prow 0 r.o.length)) .nil) (.node .leaf (some (.prow 52 2 PrR r.o encR)) .leaf) 1
def pre_l_procs (p : A_l_procs) : Prop := p.l.length ≤ 40 ∧ 0 ≤ p.i ∧ p.i ≤ (p.l.length : Int) ∧ (p.o.length : Int) = p.i
noncomputable def sp_l_procs (p : A_l_procs) (K : KC) : Bool := must (prB (pre_l_procs p)) (out_l_procs p K)
noncomputable def lp_procs : LpF := fun j S M nx K => (Bool.rec (false) (exB fun p : A_l_procs => must (prB ((S, M, nx) = I_l_procs p)) (sp_l_procs p K)) (Nat.beq j 0))
def mu_l_procs (p : A_l_procs) : Nat := ((p.l.length : Int) - p.i).toNat
theorem bk_l_procs {p q : A_l_procs} {K : KC} {s : IL} (hm : mu_l_procs q < mu_l_procs p) (hp : pre_l_procs q) (hK : out_l_procs q K = true) (e : s = I_l_procs q) : (exB fun q => mP (s = I_l_procs q ∧ mu_l_procs q < mu_l_procs p) (sp_l_procs q K)) = true := exB_mk q (mustP ⟨e, hm⟩ (mustP hp hK))
def bd_l_procs : XC := (.aft (.seq (.seq (g_ 4 [p_ 0 5 (m_ 4), p_ 1 6 (m_ 0), p_ 2 7 (k_ 6), p_ 3 8 (.bin 3 0 (.t 5) (.t 7))]) (.cond (.t 8) .skip (.exit 2))) (.seq (.block 3 (g_ 9 [p_ 0 11 (m_ 3), p_ 1 12 (m_ 0), p_ 2 13 (m_ 4), p_ 3 14 (.ixs 2 (.t 12) (.t 13)), r_ 4 15 (.ld true 2 (.t 14)), c_ 5 16 26 [.t 15], e_ 6 17 (.bsl 52 2 1 [.int 1 (.ofNat 0), .int 2 (.ofNat 0)] [(0, 2)] [.t 16]), e_ 7 18 (.app 52 2 4 (.t 11) (.t 17)), p_ 8 3 (m_ 18)])) (g_ 3 [p_ 0 9 (m_ 4), p_ 1 10 (.bin 0 0 (.t 9) (i_ 1)), p_ 2 4 (m_ 10)]))) [(0, [.can 0 [0, 3, 4]]), (2, [.can 0 [3]])])
theorem vb_l_procs (p : A_l_procs) (K : KC) (hpre : pre_l_procs p) (hK : out_l_procs p K = true) : (codeX (cfT nat_writes) lp_procs 600 bd_l_procs (I_l_procs p).1 (I_l_procs p).2.1 (I_l_procs p).2.2 (fun e S M nx => Nat.casesOn e (exB fun q : A_l_procs => must (prB ((S, M, nx) = I_l_procs q ∧ mu_l_procs q < mu_l_procs p)) (sp_l_procs q K)) (fun e2 => K (Nat.succ e2) S M nx))) = true := by
 refine Eq.trans (b := (iP (p.i < (p.l.length : Int)) (mP (0 ≤ p.i ∧ p.i < (p.l.length : Int)) (allB fun x1 : PrR => iP (p.l[p.i.toNat]? = some x1) (mP (p.o.length = p.o.length) (exB fun m1 : List PrR => mP (rowsR (m1.map encR) [[.sint 1 x1.n, .sint 2 x1.l]]) (mP (limP 4 (p.o.length + m1.length)) (mP (InR 0 (p.i + (1 : Int))) (exB fun q1 : A_l_procs => mP (((.cons 4 (.sy (.int 0 (p.i + (1 : Int)))) (.cons 3 (.sy (.prow 0 ((p.o ++ m1).length))) (.cons 0 (.sy (.imm p.h 2 PrR p.l encR)) .nil))), (.node .leaf (some (.prow 52 2 PrR (p.o ++ m1) encR)) .leaf), 1) = I_l_procs q1 ∧ mu_l_procs q1 < mu_l_procs p) (sp_l_procs q1 K)))))) true)) (K 2 (.cons 3 (.sy (.prow 0 p.o.length)) .nil) (.node .leaf (some (.prow 52 2 PrR p.o encR)) .leaf) 1))) (by kernel_rfl) ?_
 dsimp only [pre_l_procs] at hpre
 obtain ⟨g0, g1, g2, g3⟩ := hpre
 refine iI (fun hc1 => ?_) (fun hc1 => ?_)
 refine mI (by first | omega | (constructor <;> omega)) ?_
 refine allB_mk (fun x1 => ?_)
 refine iI (fun hi2 => ?_) (fun _ => rfl)
 refine mI (rfl) ?_
 refine exB_mk [⟨x1.n, x1.l⟩] ?_
 refine mI (show rowsR ([⟨x1.n, x1.l⟩].map encR) [[.sint 1 x1.n, .sint 2 x1.l]] from ⟨⟨.inl rfl, ⟨.inl rfl, trivial⟩⟩, trivial⟩) (mI (by (try dsimp only); (first | omega | (simp [limP] <;> omega))) (mI (by simp only [InR]; omega) ?_))
 exact bk_l_procs (q := ⟨p.h, p.l, p.o ++ [⟨x1.n, x1.l⟩], p.i + (1 : Int)⟩) (by dsimp only [mu_l_procs]; omega) (by dsimp only [pre_l_procs]; exact ⟨g0, by omega, by omega, by simp; omega⟩) hK rfl
 exact allB_ok hK (⟨p.o⟩ : R_l_procs)
theorem lo_l_procs : LpOk Tryz.prog 20 0 lp_procs true 0 bd_l_procs := by
 exact lp_of (lf := 600) tz_mix (cfT_ok nat_writes_ok) (by rfl) I_l_procs mu_l_procs sp_l_procs (fun b j x h => by cases h) (fun S M nx K h => by obtain ⟨p, h⟩ := exB_ok h; exact ⟨p, (mustP_ok h).1, (mustP_ok h).2⟩) (fun p K h => vb_l_procs p K (mustP_ok h).1 (mustP_ok h).2)
structure A_procs where
 h : Value
 l : List PrR
structure R_procs where
 h : Value
 o : List PrR
noncomputable def I_procs (p : A_procs) : IE := ([.sy (.imm p.h 2 PrR p.l encR)], .leaf, 0)
noncomputable def out_procs (p : A_procs) (K : KE) : Bool := allB fun r : R_procs => K (.sy (.imm r.h 2 PrR r.o encR)) .leaf 0
def pre_procs (p : A_procs) : Prop := p.l.length ≤ 40
theorem vf_procs (p : A_procs) (K : KE) (hpre : pre_procs p) (hK : out_procs p K = true) : (funE 0 (cfT nat_writes) lp_procs 600 ft_procs (I_procs p).1 (I_procs p).2.1 (I_procs p).2.2 K) = true := by
 refine Eq.trans (b := (exB fun p1 : A_l_procs => mP (((.cons 4 (.sy (.int 0 0)) (.cons 3 (.sy (.prow 0 0)) (.cons 0 (.sy (.imm p.h 2 PrR p.l encR)) .nil))), (.node .leaf (some (.prow 52 2 PrR ([] : List PrR) encR)) .leaf), 1) = I_l_procs p1) (mP (pre_l_procs p1) (allB fun r1 : R_l_procs => mP (r1.o.length = r1.o.length) (allB fun h1 : Value => K (.sy (.imm h1 2 PrR r1.o encR)) .leaf 0))))) (by kernel_rfl) ?_
 dsimp only [pre_procs] at hpre
 refine callP (⟨p.h, p.l, ([] : List PrR), (0 : Int)⟩ : A_l_procs) rfl (by (try dsimp only [pre_l_procs]); exact ⟨by assumption, by omega, by omega, by simp⟩) ?_
 refine allB_mk (fun r1 => ?_)
 refine mI (rfl) ?_
 refine allB_mk (fun h1 => ?_)
 exact allB_ok hK (⟨h1, r1.o⟩ : R_procs)
noncomputable def nat_procs := natC nat_writes 0 (esOf I_procs (spP pre_procs out_procs)) 69 [(0, 23)]
theorem nat_procs_ok : NatsOk Tryz.prog nat_procs := natC_ok (natE_said (f := 69) (k := 0) (lp := lp_procs) (lf := 600) tz_mix (cfT_ok nat_writes_ok) ft_procs_ok (by rfl) (fun b j x h => (mem_step lo_l_procs (fun h => (by cases h)) h)) fun p K h => vf_procs p K (mustP_ok h).1 (mustP_ok h).2) nat_writes_ok
def ft_own : XF := .mk 23 (.cell 2 true 18) (.seq (g_ 2 [e_ 0 1 (.box 182 (.t 0)), e_ 1 2 (.al 88 [.int 1 (.ofNat 0), .int 1 (.ofNat 0), .int 2 (.ofNat 0), .int 3 (.ofNat 0), .int 1 (.ofNat 0), .int 1 (.ofNat 0), .int 1 (.ofNat 0), .int 1 (.ofNat 0), .int 1 (.ofNat 0), .int 1 (.ofNat 0), .int 1 (.ofNat 0), .int 3 (.ofNat 0), .nilS, .int 1 (.ofNat 0), .str [], .nilS, .int 1 (.ofNat 0), .int 2 (.ofNat 0)])]) (.seq (h_ 21 [p_ 0 3 (f_ 0 1), r_ 1 4 (l_ 3), p_ 2 5 (f_ 1 1), r_ 3 6 (.ld true 10 (.t 5)), p_ 5 8 (f_ 11 1), r_ 6 9 (l_ 8), p_ 7 10 (f_ 12 1), r_ 8 11 (l_ 10), p_ 10 13 (f_ 13 1), r_ 11 14 (.ld true 2 (.t 13)), p_ 13 16 (f_ 15 1), r_ 14 17 (l_ 16), p_ 16 19 (f_ 16 1), r_ 17 20 (.ld true 2 (.t 19)), c_ 4 7 65 [.t 6], a_ 1 4 (l_ 3), a_ 6 9 (l_ 8), a_ 8 11 (l_ 10), a_ 11 14 (.ld true 2 (.t 13)), a_ 14 17 (l_ 16), a_ 17 20 (.ld true 2 (.t 19)), c_ 9 12 66 [.t 11], a_ 1 4 (l_ 3), a_ 6 9 (l_ 8), a_ 11 14 (.ld true 2 (.t 13)), a_ 14 17 (l_ 16), a_ 17 20 (.ld true 2 (.t 19)), c_ 12 15 67 [.t 14], a_ 1 4 (l_ 3), a_ 6 9 (l_ 8), a_ 14 17 (l_ 16), a_ 17 20 (.ld true 2 (.t 19)), c_ 15 18 155 [.t 17], a_ 1 4 (l_ 3), a_ 6 9 (l_ 8), a_ 17 20 (.ld true 2 (.t 19)), c_ 18 21 26 [.t 20], a_ 1 4 (l_ 3), a_ 6 9 (l_ 8), p_ 19 22 (.bld [.int 1 (.ofNat 0), .int 1 (.ofNat 0), .int 2 (.ofNat 0), .int 3 (.ofNat 0), .int 1 (.ofNat 0), .int 1 (.ofNat 0), .int 1 (.ofNat 0), .int 1 (.ofNat 0), .int 1 (.ofNat 0), .int 1 (.ofNat 0), .int 1 (.ofNat 0), .int 3 (.ofNat 0), .nilS, .int 1 (.ofNat 0), .str [], .nilS, .int 1 (.ofNat 0), .int 2 (.ofNat 0)] [(0, 1), (1, 10), (11, 1), (12, 1), (13, 2), (15, 1), (16, 2)] [.t 4, .t 7, .t 9, .t 12, .t 15, .t 18, .t 21]), e0_ 20 (.st 18 (.t 2) (.t 22))]) .ret))
theorem ft_own_ok : chkF Tryz.prog 121 ft_own = true := by kernel_rfl
structure A_own where
 e : EnR
structure R_own where
 e : EnR
noncomputable def I_own (p : A_own) : IE := ([.agg [.sy (.int 1 p.e.kind), .sy (.int 1 p.e.cn), .sy (.int 2 p.e.cl), .sy (.int 3 p.e.seq), .sy (.int 1 p.e.dep), .sy (.int 1 p.e.p0), .sy (.int 1 p.e.p1), .sy (.int 1 p.e.p2), .sy (.int 1 p.e.p3), .sy (.int 1 p.e.p4), .sy (.int 1 p.e.p5), .sy (.int 3 p.e.fl), .sy (.imm p.e.hp 5 PtR p.e.ps encP), .sy (.int 1 p.e.code), .sy (.str p.e.rv), .sy (.imm p.e.hw 3 WrR p.e.ws encW), .sy (.int 1 p.e.vn), .sy (.int 2 p.e.vl)]], .leaf, 0)
noncomputable def out_own (p : A_own) (K : KE) : Bool := allB fun r : R_own => K (.agg [.sy (.int 1 r.e.kind), .sy (.int 1 r.e.cn), .sy (.int 2 r.e.cl), .sy (.int 3 r.e.seq), .sy (.int 1 r.e.dep), .sy (.int 1 r.e.p0), .sy (.int 1 r.e.p1), .sy (.int 1 r.e.p2), .sy (.int 1 r.e.p3), .sy (.int 1 r.e.p4), .sy (.int 1 r.e.p5), .sy (.int 3 r.e.fl), .sy (.imm r.e.hp 5 PtR r.e.ps encP), .sy (.int 1 r.e.code), .sy (.str r.e.rv), .sy (.imm r.e.hw 3 WrR r.e.ws encW), .sy (.int 1 r.e.vn), .sy (.int 2 r.e.vl)]) .leaf 0
def pre_own (p : A_own) : Prop := p.e.ps.length ≤ 200 ∧ p.e.ws.length ≤ 300
theorem vf_own (p : A_own) (K : KE) (hpre : pre_own p) (hK : out_own p K = true) : (funE 0 (cfT nat_procs) noLp 600 ft_own (I_own p).1 (I_own p).2.1 (I_own p).2.2 K) = true := by
 refine Eq.trans (b := (must (mP (((.int 3 p.e.seq) : SY) = (.int 3 p.e.seq)) (mP (((.int 1 p.e.dep) : SY) = (.int 1 p.e.dep)) (mP (((.int 3 p.e.seq) : SY) = (.int 3 p.e.seq)) (mP (((.int 1 p.e.dep) : SY) = (.int 1 p.e.dep)) (mP (((.int 1 p.e.kind) : SY) = (.int 1 p.e.kind)) (mP (((.int 3 p.e.fl) : SY) = (.int 3 p.e.fl)) (mP (((.imm p.e.hp 5 PtR p.e.ps encP) : SY) = (.imm p.e.hp 5 PtR p.e.ps encP)) (must (Bool.and (prB (((.int 1 p.e.code) : SY) = (.int 1 p.e.code))) (Bool.and (prB (((.str p.e.rv) : SY) = (.str p.e.rv))) (true))) (mP (((.imm p.e.hw 3 WrR p.e.ws encW) : SY) = (.imm p.e.hw 3 WrR p.e.ws encW)) (must (Bool.and (prB (((.int 1 p.e.vn) : SY) = (.int 1 p.e.vn))) (Bool.and (prB (((.int 2 p.e.vl) : SY) = (.int 2 p.e.vl))) (true))) (exB fun p1 : A_parts => mP (([.sy (.imm p.e.hp 5 PtR p.e.ps encP)], .leaf, 0) = I_parts p1) (mP (pre_parts p1) (allB fun r1 : R_parts => mP (((.int 1 p.e.kind) : SY) = (.int 1 p.e.kind)) (mP (((.int 3 p.e.fl) : SY) = (.int 3 p.e.fl)) (must (Bool.and (prB (((.int 1 p.e.code) : SY) = (.int 1 p.e.code))) (Bool.and (prB (((.str p.e.rv) : SY) = (.str p.e.rv))) (true))) (mP (((.imm p.e.hw 3 WrR p.e.ws encW) : SY) = (.imm p.e.hw 3 WrR p.e.ws encW)) (must (Bool.and (prB (((.int 1 p.e.vn) : SY) = (.int 1 p.e.vn))) (Bool.and (prB (((.int 2 p.e.vl) : SY) = (.int 2 p.e.vl))) (true))) (mP (((.int 1 p.e.kind) : SY) = (.int 1 p.e.kind)) (mP (((.int 3 p.e.fl) : SY) = (.int 3 p.e.fl)) (mP (((.imm p.e.hw 3 WrR p.e.ws encW) : SY) = (.imm p.e.hw 3 WrR p.e.ws encW)) (must (Bool.and (prB (((.int 1 p.e.vn) : SY) = (.int 1 p.e.vn))) (Bool.and (prB (((.int 2 p.e.vl) : SY) = (.int 2 p.e.vl))) (true))) (exB fun p2 : A_writes => mP (([.sy (.imm p.e.hw 3 WrR p.e.ws encW)], .leaf, 0) = I_writes p2) (mP (pre_writes p2) (allB fun r2 : R_writes => mP (((.int 1 p.e.kind) : SY) = (.int 1 p.e.kind)) (mP (((.int 3 p.e.fl) : SY) = (.int 3 p.e.fl)) (must (Bool.and (prB (((.int 1 p.e.vn) : SY) = (.int 1 p.e.vn))) (Bool.and (prB (((.int 2 p.e.vl) : SY) = (.int 2 p.e.vl))) (true))) (mP (((.int 1 p.e.kind) : SY) = (.int 1 p.e.kind)) (mP (((.int 3 p.e.fl) : SY) = (.int 3 p.e.fl)) (K (.agg [.sy (.int 1 p.e.kind), .sy (.int 1 p.e.cn), .sy (.int 2 p.e.cl), .sy (.int 3 p.e.seq), .sy (.int 1 p.e.dep), .sy (.int 1 p.e.p0), .sy (.int 1 p.e.p1), .sy (.int 1 p.e.p2), .sy (.int 1 p.e.p3), .sy (.int 1 p.e.p4), .sy (.int 1 p.e.p5), .sy (.int 3 p.e.fl), .sy (.imm r1.h 5 PtR r1.o encP), .sy (.int 1 p.e.code), .sy (.str p.e.rv), .sy (.imm r2.h 3 WrR r2.o encW), .sy (.int 1 p.e.vn), .sy (.int 2 p.e.vl)]) .leaf 0))))))))))))))))))))))))))))) (must (Bool.and (prB (((.int 1 p.e.cn) : SY) = (.int 1 p.e.cn))) (Bool.and (prB (((.int 2 p.e.cl) : SY) = (.int 2 p.e.cl))) (true))) (mP (((.int 3 p.e.seq) : SY) = (.int 3 p.e.seq)) (mP (((.int 1 p.e.dep) : SY) = (.int 1 p.e.dep)) (mP (((.int 3 p.e.seq) : SY) = (.int 3 p.e.seq)) (mP (((.int 1 p.e.dep) : SY) = (.int 1 p.e.dep)) (mP (((.int 1 p.e.kind) : SY) = (.int 1 p.e.kind)) (mP (((.int 3 p.e.fl) : SY) = (.int 3 p.e.fl)) (mP (((.imm p.e.hp 5 PtR p.e.ps encP) : SY) = (.imm p.e.hp 5 PtR p.e.ps encP)) (must (Bool.and (prB (((.int 1 p.e.code) : SY) = (.int 1 p.e.code))) (Bool.and (prB (((.str p.e.rv) : SY) = (.str p.e.rv))) (true))) (mP (((.imm p.e.hw 3 WrR p.e.ws encW) : SY) = (.imm p.e.hw 3 WrR p.e.ws encW)) (must (Bool.and (prB (((.int 1 p.e.vn) : SY) = (.int 1 p.e.vn))) (Bool.and (prB (((.int 2 p.e.vl) : SY) = (.int 2 p.e.vl))) (true))) (exB fun p3 : A_parts => mP (([.sy (.imm p.e.hp 5 PtR p.e.ps encP)], .leaf, 0) = I_parts p3) (mP (pre_parts p3) (allB fun r3 : R_parts => mP (((.int 1 p.e.kind) : SY) = (.int 1 p.e.kind)) (mP (((.int 3 p.e.fl) : SY) = (.int 3 p.e.fl)) (must (Bool.and (prB (((.int 1 p.e.code) : SY) = (.int 1 p.e.code))) (Bool.and (prB (((.str p.e.rv) : SY) = (.str p.e.rv))) (true))) (mP (((.imm p.e.hw 3 WrR p.e.ws encW) : SY) = (.imm p.e.hw 3 WrR p.e.ws encW)) (must (Bool.and (prB (((.int 1 p.e.vn) : SY) = (.int 1 p.e.vn))) (Bool.and (prB (((.int 2 p.e.vl) : SY) = (.int 2 p.e.vl))) (true))) (mP (((.int 1 p.e.kind) : SY) = (.int 1 p.e.kind)) (mP (((.int 3 p.e.fl) : SY) = (.int 3 p.e.fl)) (mP (((.imm p.e.hw 3 WrR p.e.ws encW) : SY) = (.imm p.e.hw 3 WrR p.e.ws encW)) (must (Bool.and (prB (((.int 1 p.e.vn) : SY) = (.int 1 p.e.vn))) (Bool.and (prB (((.int 2 p.e.vl) : SY) = (.int 2 p.e.vl))) (true))) (exB fun p4 : A_writes => mP (([.sy (.imm p.e.hw 3 WrR p.e.ws encW)], .leaf, 0) = I_writes p4) (mP (pre_writes p4) (allB fun r4 : R_writes => mP (((.int 1 p.e.kind) : SY) = (.int 1 p.e.kind)) (mP (((.int 3 p.e.fl) : SY) = (.int 3 p.e.fl)) (must (Bool.and (prB (((.int 1 p.e.vn) : SY) = (.int 1 p.e.vn))) (Bool.and (prB (((.int 2 p.e.vl) : SY) = (.int 2 p.e.vl))) (true))) (mP (((.int 1 p.e.kind) : SY) = (.int 1 p.e.kind)) (mP (((.int 3 p.e.fl) : SY) = (.int 3 p.e.fl)) (K (.agg [.sy (.int 1 p.e.kind), .sy (.int 1 p.e.cn), .sy (.int 2 p.e.cl), .sy (.int 3 p.e.seq), .sy (.int 1 p.e.dep), .sy (.int 1 p.e.p0), .sy (.int 1 p.e.p1), .sy (.int 1 p.e.p2), .sy (.int 1 p.e.p3), .sy (.int 1 p.e.p4), .sy (.int 1 p.e.p5), .sy (.int 3 p.e.fl), .sy (.imm r3.h 5 PtR r3.o encP), .sy (.int 1 p.e.code), .sy (.str p.e.rv), .sy (.imm r4.h 3 WrR r4.o encW), .sy (.int 1 p.e.vn), .sy (.int 2 p.e.vl)]) .leaf 0)))))))))))))))))))))))))))))))) (by kernel_rfl) ?_
 dsimp only [pre_own] at hpre
 obtain ⟨k0, k1⟩ := hpre
 refine must_mk ?_ ?_
 refine mI (rfl) (mI (rfl) (mI (rfl) (mI (rfl) (mI (rfl) (mI (rfl) (mI (rfl) ?_))))))
 refine must_mk (by simp [prB]) ?_
 refine mI (rfl) ?_
 refine must_mk (by simp [prB]) ?_
 refine callP (⟨p.e.hp, p.e.ps⟩ : A_parts) rfl (by (try dsimp only [pre_parts]); omega) ?_
 refine allB_mk (fun r1 => ?_)
 refine mI (rfl) (mI (rfl) ?_)
 refine must_mk (by simp [prB]) ?_
 refine mI (rfl) ?_
 refine must_mk (by simp [prB]) ?_
 refine mI (rfl) (mI (rfl) (mI (rfl) ?_))
 refine must_mk (by simp [prB]) ?_
 refine callP (⟨p.e.hw, p.e.ws⟩ : A_writes) rfl (by (try dsimp only [pre_writes]); omega) ?_
 refine allB_mk (fun r2 => ?_)
 refine mI (rfl) (mI (rfl) ?_)
 refine must_mk (by simp [prB]) ?_
 refine mI (rfl) (mI (rfl) ?_)
 exact allB_ok hK (⟨({ p.e with hp := r1.h, ps := r1.o, hw := r2.h, ws := r2.o } : EnR)⟩ : R_own)
 refine must_mk (by simp [prB]) ?_
 refine mI (rfl) (mI (rfl) (mI (rfl) (mI (rfl) (mI (rfl) (mI (rfl) (mI (rfl) ?_))))))
 refine must_mk (by simp [prB]) ?_
 refine mI (rfl) ?_
 refine must_mk (by simp [prB]) ?_
 refine callP (⟨p.e.hp, p.e.ps⟩ : A_parts) rfl (by (try dsimp only [pre_parts]); omega) ?_
 refine allB_mk (fun r3 => ?_)
 refine mI (rfl) (mI (rfl) ?_)
 refine must_mk (by simp [prB]) ?_
 refine mI (rfl) ?_
 refine must_mk (by simp [prB]) ?_
 refine mI (rfl) (mI (rfl) (mI (rfl) ?_))
 refine must_mk (by simp [prB]) ?_
 refine callP (⟨p.e.hw, p.e.ws⟩ : A_writes) rfl (by (try dsimp only [pre_writes]); omega) ?_
 refine allB_mk (fun r4 => ?_)
 refine mI (rfl) (mI (rfl) ?_)
 refine must_mk (by simp [prB]) ?_
 refine mI (rfl) (mI (rfl) ?_)
 exact allB_ok hK (⟨({ p.e with hp := r3.h, ps := r3.o, hw := r4.h, ws := r4.o } : EnR)⟩ : R_own)
noncomputable def nat_own := natC nat_procs 0 (esOf I_own (spP pre_own out_own)) 121 [(0, 15)]
theorem nat_own_ok : NatsOk Tryz.prog nat_own := natC_ok (natE_pl (f := 121) (k := 0) (cfT_ok nat_procs_ok) ft_own_ok (by rfl) (by rfl) vf_own) nat_procs_ok
def ft_owns : XF := .mk 20 (.one 2) (.seq (g_ 1 [p_ 0 2 (.mv (.c .nilS))]) (.seq (g_ 1 [p_ 0 3 (.mv (.c .nilS))]) (.seq (.seq (g_ 1 [p_ 0 4 (.mv (i_ 0))]) (.block 2 (.pre [.can 0 [0, 3, 4], .born 3 88 18 EnR encE, .up 4, .can 0 [0, 3, 4]] (.inv 0 (.aft (.seq (.seq (g_ 4 [p_ 0 5 (m_ 4), p_ 1 6 (m_ 0), p_ 2 7 (k_ 6), p_ 3 8 (.bin 3 0 (.t 5) (.t 7))]) (.cond (.t 8) .skip (.exit 2))) (.seq (.block 3 (g_ 9 [p_ 0 11 (m_ 3), p_ 1 12 (m_ 0), p_ 2 13 (m_ 4), p_ 3 14 (.ixs 18 (.t 12) (.t 13)), r_ 4 15 (.ld true 18 (.t 14)), c_ 5 16 121 [.t 15], e_ 6 17 (.bsl 88 18 1 [.int 1 (.ofNat 0), .int 1 (.ofNat 0), .int 2 (.ofNat 0), .int 3 (.ofNat 0), .int 1 (.ofNat 0), .int 1 (.ofNat 0), .int 1 (.ofNat 0), .int 1 (.ofNat 0), .int 1 (.ofNat 0), .int 1 (.ofNat 0), .int 1 (.ofNat 0), .int 3 (.ofNat 0), .nilS, .int 1 (.ofNat 0), .str [], .nilS, .int 1 (.ofNat 0), .int 2 (.ofNat 0)] [(0, 18)] [.t 16]), e_ 7 18 (.app 88 18 104 (.t 11) (.t 17)), p_ 8 3 (m_ 18)])) (g_ 3 [p_ 0 9 (m_ 4), p_ 1 10 (.bin 0 0 (.t 9) (i_ 1)), p_ 2 4 (m_ 10)]))) [(0, [.can 0 [0, 3, 4]]), (2, [.can 0 [3]])]))))) (.seq (g_ 2 [p_ 0 19 (m_ 3), p_ 1 2 (m_ 19)]) .ret))))
theorem ft_owns_ok : chkF Tryz.prog 70 ft_owns = true := by kernel_rfl
structure A_l_owns where
 h : Value
 l : List EnR
 o : List EnR
 i : Int
structure R_l_owns where
 o : List EnR
noncomputable def I_l_owns (p : A_l_owns) : IL := ((.cons 4 (.sy (.int 0 p.i)) (.cons 3 (.sy (.prow 0 p.o.length)) (.cons 0 (.sy (.imm p.h 18 EnR p.l encE)) .nil))), (.node .leaf (some (.prow 88 18 EnR p.o encE)) .leaf), 1)
noncomputable def out_l_owns (p : A_l_owns) (K : KC) : Bool := allB fun r : R_l_owns => K 2 (.cons 3 (.sy (.prow 0 r.o.length)) .nil) (.node .leaf (some (.prow 88 18 EnR r.o encE)) .leaf) 1
def pre_l_owns (p : A_l_owns) : Prop := okE p.l ∧ 0 ≤ p.i ∧ p.i ≤ (p.l.length : Int) ∧ (p.o.length : Int) = p.i
noncomputable def sp_l_owns (p : A_l_owns) (K : KC) : Bool := must (prB (pre_l_owns p)) (out_l_owns p K)
noncomputable def lp_owns : LpF := fun j S M nx K => (Bool.rec (false) (exB fun p : A_l_owns => must (prB ((S, M, nx) = I_l_owns p)) (sp_l_owns p K)) (Nat.beq j 0))
def mu_l_owns (p : A_l_owns) : Nat := ((p.l.length : Int) - p.i).toNat
theorem bk_l_owns {p q : A_l_owns} {K : KC} {s : IL} (hm : mu_l_owns q < mu_l_owns p) (hp : pre_l_owns q) (hK : out_l_owns q K = true) (e : s = I_l_owns q) : (exB fun q => mP (s = I_l_owns q ∧ mu_l_owns q < mu_l_owns p) (sp_l_owns q K)) = true := exB_mk q (mustP ⟨e, hm⟩ (mustP hp hK))
def bd_l_owns : XC := (.aft (.seq (.seq (g_ 4 [p_ 0 5 (m_ 4), p_ 1 6 (m_ 0), p_ 2 7 (k_ 6), p_ 3 8 (.bin 3 0 (.t 5) (.t 7))]) (.cond (.t 8) .skip (.exit 2))) (.seq (.block 3 (g_ 9 [p_ 0 11 (m_ 3), p_ 1 12 (m_ 0), p_ 2 13 (m_ 4), p_ 3 14 (.ixs 18 (.t 12) (.t 13)), r_ 4 15 (.ld true 18 (.t 14)), c_ 5 16 121 [.t 15], e_ 6 17 (.bsl 88 18 1 [.int 1 (.ofNat 0), .int 1 (.ofNat 0), .int 2 (.ofNat 0), .int 3 (.ofNat 0), .int 1 (.ofNat 0), .int 1 (.ofNat 0), .int 1 (.ofNat 0), .int 1 (.ofNat 0), .int 1 (.ofNat 0), .int 1 (.ofNat 0), .int 1 (.ofNat 0), .int 3 (.ofNat 0), .nilS, .int 1 (.ofNat 0), .str [], .nilS, .int 1 (.ofNat 0), .int 2 (.ofNat 0)] [(0, 18)] [.t 16]), e_ 7 18 (.app 88 18 104 (.t 11) (.t 17)), p_ 8 3 (m_ 18)])) (g_ 3 [p_ 0 9 (m_ 4), p_ 1 10 (.bin 0 0 (.t 9) (i_ 1)), p_ 2 4 (m_ 10)]))) [(0, [.can 0 [0, 3, 4]]), (2, [.can 0 [3]])])
theorem vb_l_owns (p : A_l_owns) (K : KC) (hpre : pre_l_owns p) (hK : out_l_owns p K = true) : (codeX (cfT nat_own) lp_owns 600 bd_l_owns (I_l_owns p).1 (I_l_owns p).2.1 (I_l_owns p).2.2 (fun e S M nx => Nat.casesOn e (exB fun q : A_l_owns => must (prB ((S, M, nx) = I_l_owns q ∧ mu_l_owns q < mu_l_owns p)) (sp_l_owns q K)) (fun e2 => K (Nat.succ e2) S M nx))) = true := by
 refine Eq.trans (b := (iP (p.i < (p.l.length : Int)) (mP (0 ≤ p.i ∧ p.i < (p.l.length : Int)) (allB fun x1 : EnR => iP (p.l[p.i.toNat]? = some x1) (exB fun p1 : A_own => mP (([.agg [.sy (.int 1 x1.kind), .sy (.int 1 x1.cn), .sy (.int 2 x1.cl), .sy (.int 3 x1.seq), .sy (.int 1 x1.dep), .sy (.int 1 x1.p0), .sy (.int 1 x1.p1), .sy (.int 1 x1.p2), .sy (.int 1 x1.p3), .sy (.int 1 x1.p4), .sy (.int 1 x1.p5), .sy (.int 3 x1.fl), .sy (.imm x1.hp 5 PtR x1.ps encP), .sy (.int 1 x1.code), .sy (.str x1.rv), .sy (.imm x1.hw 3 WrR x1.ws encW), .sy (.int 1 x1.vn), .sy (.int 2 x1.vl)]], .leaf, 0) = I_own p1) (mP (pre_own p1) (allB fun r1 : R_own => mP (p.o.length = p.o.length) (exB fun m1 : List EnR => mP (rowsR (m1.map encE) [[.sint 1 r1.e.kind, .sint 1 r1.e.cn, .sint 2 r1.e.cl, .sint 3 r1.e.seq, .sint 1 r1.e.dep, .sint 1 r1.e.p0, .sint 1 r1.e.p1, .sint 1 r1.e.p2, .sint 1 r1.e.p3, .sint 1 r1.e.p4, .sint 1 r1.e.p5, .sint 3 r1.e.fl, .imm r1.e.hp 5 PtR r1.e.ps encP, .sint 1 r1.e.code, .sstr r1.e.rv, .imm r1.e.hw 3 WrR r1.e.ws encW, .sint 1 r1.e.vn, .sint 2 r1.e.vl]]) (mP (limP 104 (p.o.length + m1.length)) (mP (InR 0 (p.i + (1 : Int))) (exB fun q1 : A_l_owns => mP (((.cons 4 (.sy (.int 0 (p.i + (1 : Int)))) (.cons 3 (.sy (.prow 0 ((p.o ++ m1).length))) (.cons 0 (.sy (.imm p.h 18 EnR p.l encE)) .nil))), (.node .leaf (some (.prow 88 18 EnR (p.o ++ m1) encE)) .leaf), 1) = I_l_owns q1 ∧ mu_l_owns q1 < mu_l_owns p) (sp_l_owns q1 K)))))))) true)) (K 2 (.cons 3 (.sy (.prow 0 p.o.length)) .nil) (.node .leaf (some (.prow 88 18 EnR p.o encE)) .leaf) 1))) (by kernel_rfl) ?_
 dsimp only [pre_l_owns] at hpre
 obtain ⟨g0, g1, g2, g3⟩ := hpre
 have g9 := g0.1
 refine iI (fun hc1 => ?_) (fun hc1 => ?_)
 refine mI (by first | omega | (constructor <;> omega)) ?_
 refine allB_mk (fun x1 => ?_)
 refine iI (fun hi2 => ?_) (fun _ => rfl)
 have hm := g0.2 _ x1 (by assumption)
 refine callP (⟨x1⟩ : A_own) rfl (by (try dsimp only [pre_own]); exact hm) ?_
 refine allB_mk (fun r1 => ?_)
 refine mI (rfl) ?_
 refine exB_mk [⟨r1.e.kind, r1.e.cn, r1.e.cl, r1.e.seq, r1.e.dep, r1.e.p0, r1.e.p1, r1.e.p2, r1.e.p3, r1.e.p4, r1.e.p5, r1.e.fl, r1.e.hp, r1.e.ps, r1.e.code, r1.e.rv, r1.e.hw, r1.e.ws, r1.e.vn, r1.e.vl⟩] ?_
 refine mI (show rowsR ([⟨r1.e.kind, r1.e.cn, r1.e.cl, r1.e.seq, r1.e.dep, r1.e.p0, r1.e.p1, r1.e.p2, r1.e.p3, r1.e.p4, r1.e.p5, r1.e.fl, r1.e.hp, r1.e.ps, r1.e.code, r1.e.rv, r1.e.hw, r1.e.ws, r1.e.vn, r1.e.vl⟩].map encE) [[.sint 1 r1.e.kind, .sint 1 r1.e.cn, .sint 2 r1.e.cl, .sint 3 r1.e.seq, .sint 1 r1.e.dep, .sint 1 r1.e.p0, .sint 1 r1.e.p1, .sint 1 r1.e.p2, .sint 1 r1.e.p3, .sint 1 r1.e.p4, .sint 1 r1.e.p5, .sint 3 r1.e.fl, .imm r1.e.hp 5 PtR r1.e.ps encP, .sint 1 r1.e.code, .sstr r1.e.rv, .imm r1.e.hw 3 WrR r1.e.ws encW, .sint 1 r1.e.vn, .sint 2 r1.e.vl]] from ⟨⟨.inl rfl, ⟨.inl rfl, ⟨.inl rfl, ⟨.inl rfl, ⟨.inl rfl, ⟨.inl rfl, ⟨.inl rfl, ⟨.inl rfl, ⟨.inl rfl, ⟨.inl rfl, ⟨.inl rfl, ⟨.inl rfl, ⟨.inl rfl, ⟨.inl rfl, ⟨.inl rfl, ⟨.inl rfl, ⟨.inl rfl, ⟨.inl rfl, trivial⟩⟩⟩⟩⟩⟩⟩⟩⟩⟩⟩⟩⟩⟩⟩⟩⟩⟩, trivial⟩) ?_
 refine mI (by (try dsimp only); (first | omega | (simp [limP] <;> omega))) (mI (by simp only [InR]; omega) ?_)
 exact bk_l_owns (q := ⟨p.h, p.l, p.o ++ [⟨r1.e.kind, r1.e.cn, r1.e.cl, r1.e.seq, r1.e.dep, r1.e.p0, r1.e.p1, r1.e.p2, r1.e.p3, r1.e.p4, r1.e.p5, r1.e.fl, r1.e.hp, r1.e.ps, r1.e.code, r1.e.rv, r1.e.hw, r1.e.ws, r1.e.vn, r1.e.vl⟩], p.i + (1 : Int)⟩) (by dsimp only [mu_l_owns]; omega) (by dsimp only [pre_l_owns]; exact ⟨g0, by omega, by omega, by simp; omega⟩) hK rfl
 exact allB_ok hK (⟨p.o⟩ : R_l_owns)
theorem lo_l_owns : LpOk Tryz.prog 20 0 lp_owns true 0 bd_l_owns := by
 exact lp_of (lf := 600) tz_mix (cfT_ok nat_own_ok) (by rfl) I_l_owns mu_l_owns sp_l_owns (fun b j x h => by cases h) (fun S M nx K h => by obtain ⟨p, h⟩ := exB_ok h; exact ⟨p, (mustP_ok h).1, (mustP_ok h).2⟩) (fun p K h => vb_l_owns p K (mustP_ok h).1 (mustP_ok h).2)
structure A_owns where
 h : Value
 l : List EnR
structure R_owns where
 o : List EnR
noncomputable def I_owns (p : A_owns) : IE := ([.sy (.imm p.h 18 EnR p.l encE)], .leaf, 0)
noncomputable def out_owns (p : A_owns) (K : KE) : Bool := allB fun r : R_owns => K (.sy (.prow 0 r.o.length)) (.node .leaf (some (.prow 88 18 EnR r.o encE)) .leaf) 1
def pre_owns (p : A_owns) : Prop := okE p.l
theorem vf_owns (p : A_owns) (K : KE) (hpre : pre_owns p) (hK : out_owns p K = true) : (funE 0 (cfT nat_own) lp_owns 600 ft_owns (I_owns p).1 (I_owns p).2.1 (I_owns p).2.2 K) = true := by
 refine Eq.trans (b := (exB fun p1 : A_l_owns => mP (((.cons 4 (.sy (.int 0 0)) (.cons 3 (.sy (.prow 0 0)) (.cons 0 (.sy (.imm p.h 18 EnR p.l encE)) .nil))), (.node .leaf (some (.prow 88 18 EnR ([] : List EnR) encE)) .leaf), 1) = I_l_owns p1) (mP (pre_l_owns p1) (allB fun r1 : R_l_owns => K (.sy (.prow 0 r1.o.length)) (.node .leaf (some (.prow 88 18 EnR r1.o encE)) .leaf) 1)))) (by kernel_rfl) ?_
 dsimp only [pre_owns] at hpre
 refine callP (⟨p.h, p.l, ([] : List EnR), (0 : Int)⟩ : A_l_owns) rfl (by (try dsimp only [pre_l_owns]); exact ⟨hpre, by omega, by omega, by simp⟩) ?_
 refine allB_mk (fun r1 => ?_)
 exact allB_ok hK (⟨r1.o⟩ : R_owns)
noncomputable def nat_owns := natC nat_own 0 (esOf I_owns (spP pre_owns out_owns)) 70 [(0, 23)]
theorem nat_owns_ok : NatsOk Tryz.prog nat_owns := natC_ok (natE_said (f := 70) (k := 0) (lp := lp_owns) (lf := 600) tz_mix (cfT_ok nat_own_ok) ft_owns_ok (by rfl) (fun b j x h => (mem_step lo_l_owns (fun h => (by cases h)) h)) fun p K h => vf_owns p K (mustP_ok h).1 (mustP_ok h).2) nat_own_ok
def ft_seatNil : XF := .mk 81 (.one 2) (.seq (g_ 2 [e_ 0 1 (.box 72 (.t 0)), p_ 1 2 (.mv (.c (.bool false)))]) (.seq (.seq (g_ 4 [r_ 0 5 (.ld true 35 (.t 1)), e_ 1 6 (.bsl 72 35 1 [.int 0 (.ofNat 0), .int 0 (.ofNat 0), .int 1 (.ofNat 0), .int 2 (.ofNat 0), .int 1 (.ofNat 0), .int 1 (.ofNat 0), .int 1 (.ofNat 0), .int 3 (.ofNat 0), .int 3 (.ofNat 0), .int 3 (.ofNat 0), .int 3 (.ofNat 0), .int 4 (.ofNat 0), .int 4 (.ofNat 0), .int 1 (.ofNat 0), .int 2 (.ofNat 0), .int 3 (.ofNat 0), .int 1 (.ofNat 0), .int 1 (.ofNat 0), .int 1 (.ofNat 0), .int 1 (.ofNat 0), .int 1 (.ofNat 0), .int 1 (.ofNat 0), .int 1 (.ofNat 0), .nilS, .int 1 (.ofNat 0), .str [], .int 1 (.ofNat 0), .int 3 (.ofNat 0), .nilS, .int 1 (.ofNat 0), .int 2 (.ofNat 0), .bool false, .nilS, .nilS, .nilS] [(0, 35)] [.t 5]), c_ 2 7 24 [.t 6], p_ 3 8 (.un 0 (.t 7))]) (.cond (.t 8) (.seq (g_ 2 [c_ 0 9 9 [], p_ 1 2 (m_ 9)]) .ret) .skip)) (.seq (g_ 1 [p_ 0 3 (.mv (.c .nilP))]) (.seq (.seq (g_ 1 [p_ 0 4 (.mv (i_ 0))]) (.block 2 (.loop [1, 2, 3, 4, 10, 11, 12, 13, 14, 16, 18, 20, 21, 22, 23, 25, 26, 27, 28, 29, 30, 31, 32, 33, 34, 35, 36, 37, 38, 39, 40, 41, 42, 43, 44, 45, 46, 47, 48, 49, 50, 51, 52, 53, 54, 55, 56, 57, 58, 59, 60, 61, 62, 63, 64, 65, 66, 67, 68, 69, 70, 71, 72, 73, 74, 75, 76, 77, 78, 79, 80] (.seq (.seq (g_ 2 [p_ 0 10 (m_ 4), p_ 1 11 (.bin 3 0 (.t 10) (i_ 2))]) (.cond (.t 11) .skip (.exit 2))) (.seq (.block 3 (.seq (g_ 2 [p_ 0 14 (m_ 3), c_ 1 15 25 [.t 14, .c .nilS]]) (.seq (g_ 2 [p_ 0 16 (m_ 3), c_ 1 17 18 [.t 16]]) (.seq (g_ 2 [p_ 0 18 (m_ 3), c_ 1 19 19 [.t 18]]) (.seq (g_ 5 [p_ 0 20 (m_ 3), p_ 1 21 (f_ 2 1), r_ 2 22 (.ld true 2 (.t 21)), c_ 3 23 26 [.t 22], c_ 4 24 21 [.t 20, .t 23]]) (.seq (.seq (h_ 53 [p_ 0 25 (m_ 3), c_ 1 26 29 [i_ 1], c_ 2 27 28 [.t 25, .t 26], c_ 3 28 27 [.t 27], p_ 4 29 (.bin 3 5 (.t 28) (i_ 1)), p_ 5 30 (m_ 29), pg_ 6 31 30 false (m_ 3), cg_ 7 32 30 false 30 [.t 31, i_ 5], pg_ 8 33 30 false (k_ 32), pg_ 9 34 30 false (.bin 3 5 (.t 33) (i_ 0)), p_ 10 35 (.pick (.t 30) (.c (.bool true)) (.t 34)), p_ 11 36 (m_ 35), pg_ 12 37 36 false (m_ 3), pg_ 13 38 36 false (f_ 2 1), rg_ 14 39 36 false (.ld true 2 (.t 38)), pg_ 16 41 36 false (f_ 4 1), rg_ 17 42 36 false (.ld true 31 (.t 41)), cg_ 15 40 36 false 26 [.t 39], ag_ 17 42 36 false (.ld true 31 (.t 41)), cg_ 18 43 36 false 32 [.t 42], cg_ 19 44 36 false 31 [.t 37, i_ 5, .t 40, .t 43], pg_ 20 45 36 false (k_ 44), pg_ 21 46 36 false (.bin 3 5 (.t 45) (i_ 0)), p_ 22 47 (.pick (.t 36) (.c (.bool true)) (.t 46)), p_ 23 48 (m_ 47), pg_ 24 49 48 false (m_ 3), cg_ 25 50 48 false 20 [.t 49], p_ 26 51 (.pick (.t 48) (.c (.bool true)) (.t 50)), p_ 27 52 (m_ 51), pg_ 28 53 52 false (m_ 3), cg_ 29 54 52 false 23 [.t 53], p_ 30 55 (.pick (.t 52) (.c (.bool true)) (.t 54)), p_ 31 56 (m_ 55), pg_ 32 57 56 false (m_ 3), cg_ 33 58 56 false 13 [.t 57], pg_ 34 59 56 false (.bin 3 5 (.t 58) (i_ 0)), p_ 35 60 (.pick (.t 56) (.c (.bool true)) (.t 59)), p_ 36 61 (m_ 60), pg_ 37 62 61 false (m_ 3), pg_ 40 65 61 false (m_ 3), cg_ 38 63 61 false 14 [.t 62], pg_ 39 64 61 false (k_ 63), cg_ 41 66 61 false 33 [.t 65], pg_ 42 67 61 false (k_ 66), pg_ 43 68 61 false (.bin 0 0 (.t 64) (.t 67)), pg_ 44 69 61 false (.bin 3 5 (.t 68) (i_ 0)), p_ 45 70 (.pick (.t 61) (.c (.bool true)) (.t 69)), p_ 46 71 (m_ 70), pg_ 47 72 71 false (m_ 3), pg_ 49 74 71 false (.bld [.int 1 (.ofNat 0), .int 3 (.ofNat 0), .nilS] [] []), cg_ 48 73 71 false 17 [.t 72], cg_ 50 75 71 false 34 [.t 73, .t 74], pg_ 51 76 71 false (.un 0 (.t 75)), p_ 52 77 (.pick (.t 71) (.c (.bool true)) (.t 76))]) (.cond (.t 77) (.seq (g_ 1 [p_ 0 2 (.mv (.c (.bool false)))]) .ret) .skip)) (g_ 3 [p_ 0 78 (.bld [.int 1 (.ofNat 0), .int 3 (.ofNat 0), .nilS, .nilP, .nilP, .nilP, .int 0 (.ofNat 0), .int 1 (.ofNat 0), .int 1 (.ofNat 0), .int 2 (.ofNat 0), .nilS, .nilS, .nilS, .nilS, .bool false, .int 3 (.ofNat 0), .int 3 (.ofNat 0), .int 0 (.ofNat 0), .nilS, .nilS, .int 0 (.ofNat 0)] [] []), e_ 1 79 (.box 105 (.t 78)), p_ 2 3 (m_ 79)]))))))) (g_ 3 [p_ 0 12 (m_ 4), p_ 1 13 (.bin 0 0 (.t 12) (i_ 1)), p_ 2 4 (m_ 13)])))))) (.seq (g_ 2 [c_ 0 80 9 [], p_ 1 2 (m_ 80)]) .ret)))))
theorem ft_seatNil_ok : chkF Tryz.prog 8 ft_seatNil = true := by kernel_rfl
structure A_seatNil where
 k : Int
 now : Int
 pn : Int
 pl : Int
 m : MsR
noncomputable def I_seatNil (p : A_seatNil) : IE := ([.agg [.sy (.int 0 p.k), .sy (.int 0 p.now), .sy (.int 1 p.pn), .sy (.int 2 p.pl), .sy (.int 1 p.m.kind), .sy (.int 1 p.m.gr), .sy (.int 1 p.m.code), .sy (.int 3 p.m.mn), .sy (.int 3 p.m.mf), .sy (.int 3 p.m.mc), .sy (.int 3 p.m.ml), .sy (.int 4 p.m.bal), .sy (.int 4 p.m.acc), .sy (.int 1 p.m.icn), .sy (.int 2 p.m.icl), .sy (.int 3 p.m.iseq), .sy (.int 1 p.m.idep), .sy (.int 1 p.m.ip0), .sy (.int 1 p.m.ip1), .sy (.int 1 p.m.ip2), .sy (.int 1 p.m.ip3), .sy (.int 1 p.m.ip4), .sy (.int 1 p.m.ip5), .sy (.imm p.m.hp 5 PtR p.m.ps encP), .sy (.int 1 p.m.rc), .sy (.str p.m.rv), .sy (.int 1 p.m.vg), .sy (.int 3 p.m.vn), .sy (.imm p.m.hv 2 PrR p.m.vm encR), .sy (.int 1 p.m.prn), .sy (.int 2 p.m.prl), .sy (.bool p.m.has), .sy (.imm p.m.hm 2 PrR p.m.ms encR), .sy (.imm p.m.he 18 EnR p.m.es encE), .sy (.imm p.m.ht 18 EnR p.m.ts encE)]], .leaf, 0)
noncomputable def out_seatNil (p : A_seatNil) (K : KE) : Bool := K (.bool true) .leaf 0
def pre_seatNil (p : A_seatNil) : Prop := p.m.ps.length ≤ 2932031007402
theorem vf_seatNil (p : A_seatNil) (K : KE) (hpre : pre_seatNil p) (hK : out_seatNil p K = true) : (funE 0 (cfT nat_owns) noLp 600 ft_seatNil (I_seatNil p).1 (I_seatNil p).2.1 (I_seatNil p).2.2 K) = true := by
 refine Eq.trans (b := (let z0 : Bool := (K (.bool true) .leaf 0); exB fun p1 : A_li3 => mP (([.sy (.imm p.m.hp 5 PtR p.m.ps encP)], .leaf, 0) = I_li3 p1) (allB fun r1 : R_li3 => iP (r1.q) (iP ((p.m.rv.length : Int) ≤ (2000 : Int)) (iP ((p.m.vm.length : Int) ≤ (40 : Int)) (iP ((p.m.ms.length : Int) ≤ (40 : Int)) (exB fun p2 : A_li5 => mP (([.sy (.imm p.m.he 18 EnR p.m.es encE)], .leaf, 0) = I_li5 p2) (allB fun r2 : R_li5 => iP (po_li5 p2 r2) (iP (r2.q) (exB fun p3 : A_li5 => mP (([.sy (.imm p.m.ht 18 EnR p.m.ts encE)], .leaf, 0) = I_li5 p3) (allB fun r3 : R_li5 => iP (po_li5 p3 r3) (iP (¬ r3.q) (exB fun p4 : A_knows => mP (([], .leaf, 0) = I_knows p4) z0) (mP (InR 0 ((p.m.es.length : Int) + (p.m.ts.length : Int))) (iP ((40 : Int) < ((p.m.es.length : Int) + (p.m.ts.length : Int))) (exB fun p5 : A_knows => mP (([], .leaf, 0) = I_knows p5) z0) (must (Bool.and (prB (((.int 1 p.m.kind) : SY) = (.int 1 p.m.kind))) (Bool.and (prB (((.int 1 p.m.gr) : SY) = (.int 1 p.m.gr))) (Bool.and (prB (((.int 1 p.m.code) : SY) = (.int 1 p.m.code))) (Bool.and (prB (((.int 3 p.m.mn) : SY) = (.int 3 p.m.mn))) (Bool.and (prB (((.int 3 p.m.mf) : SY) = (.int 3 p.m.mf))) (Bool.and (prB (((.int 3 p.m.mc) : SY) = (.int 3 p.m.mc))) (Bool.and (prB (((.int 3 p.m.ml) : SY) = (.int 3 p.m.ml))) (Bool.and (prB (((.int 4 p.m.bal) : SY) = (.int 4 p.m.bal))) (Bool.and (prB (((.int 4 p.m.acc) : SY) = (.int 4 p.m.acc))) (Bool.and (prB (((.int 1 p.m.icn) : SY) = (.int 1 p.m.icn))) (Bool.and (prB (((.int 2 p.m.icl) : SY) = (.int 2 p.m.icl))) (Bool.and (prB (((.int 3 p.m.iseq) : SY) = (.int 3 p.m.iseq))) (Bool.and (prB (((.int 1 p.m.idep) : SY) = (.int 1 p.m.idep))) (Bool.and (prB (((.int 1 p.m.ip0) : SY) = (.int 1 p.m.ip0))) (Bool.and (prB (((.int 1 p.m.ip1) : SY) = (.int 1 p.m.ip1))) (Bool.and (prB (((.int 1 p.m.ip2) : SY) = (.int 1 p.m.ip2))) (Bool.and (prB (((.int 1 p.m.ip3) : SY) = (.int 1 p.m.ip3))) (Bool.and (prB (((.int 1 p.m.ip4) : SY) = (.int 1 p.m.ip4))) (Bool.and (prB (((.int 1 p.m.ip5) : SY) = (.int 1 p.m.ip5))) (Bool.and (prB (((.imm p.m.hp 5 PtR p.m.ps encP) : SY) = (.imm p.m.hp 5 PtR p.m.ps encP))) (Bool.and (prB (((.int 1 p.m.rc) : SY) = (.int 1 p.m.rc))) (Bool.and (prB (((.str p.m.rv) : SY) = (.str p.m.rv))) (Bool.and (prB (((.int 1 p.m.vg) : SY) = (.int 1 p.m.vg))) (Bool.and (prB (((.int 3 p.m.vn) : SY) = (.int 3 p.m.vn))) (Bool.and (prB (((.imm p.m.hv 2 PrR p.m.vm encR) : SY) = (.imm p.m.hv 2 PrR p.m.vm encR))) (Bool.and (prB (((.int 1 p.m.prn) : SY) = (.int 1 p.m.prn))) (Bool.and (prB (((.int 2 p.m.prl) : SY) = (.int 2 p.m.prl))) (Bool.and (prB (((.bool p.m.has) : SY) = (.bool p.m.has))) (Bool.and (prB (((.imm p.m.hm 2 PrR p.m.ms encR) : SY) = (.imm p.m.hm 2 PrR p.m.ms encR))) (Bool.and (prB (((.imm p.m.he 18 EnR p.m.es encE) : SY) = (.imm p.m.he 18 EnR p.m.es encE))) (Bool.and (prB (((.imm p.m.ht 18 EnR p.m.ts encE) : SY) = (.imm p.m.ht 18 EnR p.m.ts encE))) (true)))))))))))))))))))))))))))))))) (must (mP (((.int 3 p.m.iseq) : SY) = (.int 3 p.m.iseq)) (mP (((.int 1 p.m.idep) : SY) = (.int 1 p.m.idep)) (mP (((.int 3 p.m.iseq) : SY) = (.int 3 p.m.iseq)) (mP (((.int 1 p.m.idep) : SY) = (.int 1 p.m.idep)) (mP (((.int 1 p.m.kind) : SY) = (.int 1 p.m.kind)) (mP (((.int 1 p.m.gr) : SY) = (.int 1 p.m.gr)) (mP (((.int 1 p.m.code) : SY) = (.int 1 p.m.code)) (mP (((.int 3 p.m.mn) : SY) = (.int 3 p.m.mn)) (mP (((.int 3 p.m.mf) : SY) = (.int 3 p.m.mf)) (mP (((.int 3 p.m.mc) : SY) = (.int 3 p.m.mc)) (mP (((.int 3 p.m.ml) : SY) = (.int 3 p.m.ml)) (mP (((.int 4 p.m.bal) : SY) = (.int 4 p.m.bal)) (mP (((.int 4 p.m.acc) : SY) = (.int 4 p.m.acc)) (mP (((.imm p.m.hp 5 PtR p.m.ps encP) : SY) = (.imm p.m.hp 5 PtR p.m.ps encP)) (must (Bool.and (prB (((.int 1 p.m.rc) : SY) = (.int 1 p.m.rc))) (Bool.and (prB (((.str p.m.rv) : SY) = (.str p.m.rv))) (true))) (must (Bool.and (prB (((.int 1 p.m.vg) : SY) = (.int 1 p.m.vg))) (Bool.and (prB (((.int 3 p.m.vn) : SY) = (.int 3 p.m.vn))) (Bool.and (prB (((.imm p.m.hv 2 PrR p.m.vm encR) : SY) = (.imm p.m.hv 2 PrR p.m.vm encR))) (true)))) (must (Bool.and (prB (((.int 1 p.m.prn) : SY) = (.int 1 p.m.prn))) (Bool.and (prB (((.int 2 p.m.prl) : SY) = (.int 2 p.m.prl))) (true))) (mP (((.bool p.m.has) : SY) = (.bool p.m.has)) (mP (((.imm p.m.hm 2 PrR p.m.ms encR) : SY) = (.imm p.m.hm 2 PrR p.m.ms encR)) (mP (((.imm p.m.he 18 EnR p.m.es encE) : SY) = (.imm p.m.he 18 EnR p.m.es encE)) (mP (((.imm p.m.ht 18 EnR p.m.ts encE) : SY) = (.imm p.m.ht 18 EnR p.m.ts encE)) (exB fun p6 : A_parts => mP (([.sy (.imm p.m.hp 5 PtR p.m.ps encP)], .leaf, 0) = I_parts p6) (mP (pre_parts p6) (allB fun r4 : R_parts => mP (((.int 1 p.m.kind) : SY) = (.int 1 p.m.kind)) (mP (((.int 1 p.m.gr) : SY) = (.int 1 p.m.gr)) (mP (((.int 1 p.m.code) : SY) = (.int 1 p.m.code)) (mP (((.int 3 p.m.mn) : SY) = (.int 3 p.m.mn)) (mP (((.int 3 p.m.mf) : SY) = (.int 3 p.m.mf)) (mP (((.int 3 p.m.mc) : SY) = (.int 3 p.m.mc)) (mP (((.int 3 p.m.ml) : SY) = (.int 3 p.m.ml)) (mP (((.int 4 p.m.bal) : SY) = (.int 4 p.m.bal)) (mP (((.int 4 p.m.acc) : SY) = (.int 4 p.m.acc)) (must (Bool.and (prB (((.int 1 p.m.rc) : SY) = (.int 1 p.m.rc))) (Bool.and (prB (((.str p.m.rv) : SY) = (.str p.m.rv))) (true))) (must (Bool.and (prB (((.int 1 p.m.vg) : SY) = (.int 1 p.m.vg))) (Bool.and (prB (((.int 3 p.m.vn) : SY) = (.int 3 p.m.vn))) (Bool.and (prB (((.imm p.m.hv 2 PrR p.m.vm encR) : SY) = (.imm p.m.hv 2 PrR p.m.vm encR))) (true)))) (must (Bool.and (prB (((.int 1 p.m.prn) : SY) = (.int 1 p.m.prn))) (Bool.and (prB (((.int 2 p.m.prl) : SY) = (.int 2 p.m.prl))) (true))) (mP (((.bool p.m.has) : SY) = (.bool p.m.has)) (mP (((.imm p.m.hm 2 PrR p.m.ms encR) : SY) = (.imm p.m.hm 2 PrR p.m.ms encR)) (mP (((.imm p.m.he 18 EnR p.m.es encE) : SY) = (.imm p.m.he 18 EnR p.m.es encE)) (mP (((.imm p.m.ht 18 EnR p.m.ts encE) : SY) = (.imm p.m.ht 18 EnR p.m.ts encE)) (mP (((.int 1 p.m.kind) : SY) = (.int 1 p.m.kind)) (mP (((.int 1 p.m.gr) : SY) = (.int 1 p.m.gr)) (mP (((.int 1 p.m.code) : SY) = (.int 1 p.m.code)) (mP (((.int 3 p.m.mn) : SY) = (.int 3 p.m.mn)) (mP (((.int 3 p.m.mf) : SY) = (.int 3 p.m.mf)) (mP (((.int 3 p.m.mc) : SY) = (.int 3 p.m.mc)) (mP (((.int 3 p.m.ml) : SY) = (.int 3 p.m.ml)) (mP (((.int 4 p.m.bal) : SY) = (.int 4 p.m.bal)) (mP (((.int 4 p.m.acc) : SY) = (.int 4 p.m.acc)) (must (Bool.and (prB (((.int 1 p.m.vg) : SY) = (.int 1 p.m.vg))) (Bool.and (prB (((.int 3 p.m.vn) : SY) = (.int 3 p.m.vn))) (Bool.and (prB (((.imm p.m.hv 2 PrR p.m.vm encR) : SY) = (.imm p.m.hv 2 PrR p.m.vm encR))) (true)))) (must (Bool.and (prB (((.int 1 p.m.prn) : SY) = (.int 1 p.m.prn))) (Bool.and (prB (((.int 2 p.m.prl) : SY) = (.int 2 p.m.prl))) (true))) (mP (((.bool p.m.has) : SY) = (.bool p.m.has)) (mP (((.imm p.m.hm 2 PrR p.m.ms encR) : SY) = (.imm p.m.hm 2 PrR p.m.ms encR)) (mP (((.imm p.m.he 18 EnR p.m.es encE) : SY) = (.imm p.m.he 18 EnR p.m.es encE)) (mP (((.imm p.m.ht 18 EnR p.m.ts encE) : SY) = (.imm p.m.ht 18 EnR p.m.ts encE)) (exB fun p7 : A_procs => mP (([.sy (.imm p.m.hv 2 PrR p.m.vm encR)], .leaf, 0) = I_procs p7) (mP (pre_procs p7) (allB fun r5 : R_procs => mP (((.int 1 p.m.vg) : SY) = (.int 1 p.m.vg)) (mP (((.int 3 p.m.vn) : SY) = (.int 3 p.m.vn)) (mP (((.int 1 p.m.kind) : SY) = (.int 1 p.m.kind)) (mP (((.int 1 p.m.gr) : SY) = (.int 1 p.m.gr)) (mP (((.int 1 p.m.code) : SY) = (.int 1 p.m.code)) (mP (((.int 3 p.m.mn) : SY) = (.int 3 p.m.mn)) (mP (((.int 3 p.m.mf) : SY) = (.int 3 p.m.mf)) (mP (((.int 3 p.m.mc) : SY) = (.int 3 p.m.mc)) (mP (((.int 3 p.m.ml) : SY) = (.int 3 p.m.ml)) (mP (((.int 4 p.m.bal) : SY) = (.int 4 p.m.bal)) (mP (((.int 4 p.m.acc) : SY) = (.int 4 p.m.acc)) (must (Bool.and (prB (((.int 1 p.m.prn) : SY) = (.int 1 p.m.prn))) (Bool.and (prB (((.int 2 p.m.prl) : SY) = (.int 2 p.m.prl))) (true))) (mP (((.bool p.m.has) : SY) = (.bool p.m.has)) (mP (((.imm p.m.hm 2 PrR p.m.ms encR) : SY) = (.imm p.m.hm 2 PrR p.m.ms encR)) (mP (((.imm p.m.he 18 EnR p.m.es encE) : SY) = (.imm p.m.he 18 EnR p.m.es encE)) (mP (((.imm p.m.ht 18 EnR p.m.ts encE) : SY) = (.imm p.m.ht 18 EnR p.m.ts encE)) (mP (((.int 1 p.m.kind) : SY) = (.int 1 p.m.kind)) (mP (((.int 1 p.m.gr) : SY) = (.int 1 p.m.gr)) (mP (((.int 1 p.m.code) : SY) = (.int 1 p.m.code)) (mP (((.int 3 p.m.mn) : SY) = (.int 3 p.m.mn)) (mP (((.int 3 p.m.mf) : SY) = (.int 3 p.m.mf)) (mP (((.int 3 p.m.mc) : SY) = (.int 3 p.m.mc)) (mP (((.int 3 p.m.ml) : SY) = (.int 3 p.m.ml)) (mP (((.int 4 p.m.bal) : SY) = (.int 4 p.m.bal)) (mP (((.int 4 p.m.acc) : SY) = (.int 4 p.m.acc)) (mP (((.bool p.m.has) : SY) = (.bool p.m.has)) (mP (((.imm p.m.hm 2 PrR p.m.ms encR) : SY) = (.imm p.m.hm 2 PrR p.m.ms encR)) (mP (((.imm p.m.he 18 EnR p.m.es encE) : SY) = (.imm p.m.he 18 EnR p.m.es encE)) (mP (((.imm p.m.ht 18 EnR p.m.ts encE) : SY) = (.imm p.m.ht 18 EnR p.m.ts encE)) (exB fun p8 : A_procs => mP (([.sy (.imm p.m.hm 2 PrR p.m.ms encR)], .leaf, 0) = I_procs p8) (mP (pre_procs p8) (allB fun r6 : R_procs => mP (((.int 1 p.m.kind) : SY) = (.int 1 p.m.kind)) (mP (((.int 1 p.m.gr) : SY) = (.int 1 p.m.gr)) (mP (((.int 1 p.m.code) : SY) = (.int 1 p.m.code)) (mP (((.int 3 p.m.mn) : SY) = (.int 3 p.m.mn)) (mP (((.int 3 p.m.mf) : SY) = (.int 3 p.m.mf)) (mP (((.int 3 p.m.mc) : SY) = (.int 3 p.m.mc)) (mP (((.int 3 p.m.ml) : SY) = (.int 3 p.m.ml)) (mP (((.int 4 p.m.bal) : SY) = (.int 4 p.m.bal)) (mP (((.int 4 p.m.acc) : SY) = (.int 4 p.m.acc)) (mP (((.bool p.m.has) : SY) = (.bool p.m.has)) (mP (((.imm p.m.he 18 EnR p.m.es encE) : SY) = (.imm p.m.he 18 EnR p.m.es encE)) (mP (((.imm p.m.ht 18 EnR p.m.ts encE) : SY) = (.imm p.m.ht 18 EnR p.m.ts encE)) (exB fun p9 : A_owns => mP (([.sy (.imm p.m.he 18 EnR p.m.es encE)], .leaf, 0) = I_owns p9) (mP (pre_owns p9) (allB fun r7 : R_owns => mP (((.int 1 p.m.kind) : SY) = (.int 1 p.m.kind)) (mP (((.int 1 p.m.gr) : SY) = (.int 1 p.m.gr)) (mP (((.int 1 p.m.code) : SY) = (.int 1 p.m.code)) (mP (((.int 3 p.m.mn) : SY) = (.int 3 p.m.mn)) (mP (((.int 3 p.m.mf) : SY) = (.int 3 p.m.mf)) (mP (((.int 3 p.m.mc) : SY) = (.int 3 p.m.mc)) (mP (((.int 3 p.m.ml) : SY) = (.int 3 p.m.ml)) (mP (((.int 4 p.m.bal) : SY) = (.int 4 p.m.bal)) (mP (((.int 4 p.m.acc) : SY) = (.int 4 p.m.acc)) (mP (((.bool p.m.has) : SY) = (.bool p.m.has)) (mP (((.imm p.m.ht 18 EnR p.m.ts encE) : SY) = (.imm p.m.ht 18 EnR p.m.ts encE)) (exB fun p10 : A_owns => mP (([.sy (.imm p.m.ht 18 EnR p.m.ts encE)], .leaf, 0) = I_owns p10) (mP (pre_owns p10) (allB fun r8 : R_owns => mP (((.int 1 p.m.kind) : SY) = (.int 1 p.m.kind)) (mP (((.int 1 p.m.gr) : SY) = (.int 1 p.m.gr)) (mP (((.int 1 p.m.code) : SY) = (.int 1 p.m.code)) (mP (((.int 3 p.m.mn) : SY) = (.int 3 p.m.mn)) (mP (((.int 3 p.m.mf) : SY) = (.int 3 p.m.mf)) (mP (((.int 3 p.m.mc) : SY) = (.int 3 p.m.mc)) (mP (((.int 3 p.m.ml) : SY) = (.int 3 p.m.ml)) (mP (((.int 4 p.m.bal) : SY) = (.int 4 p.m.bal)) (mP (((.int 4 p.m.acc) : SY) = (.int 4 p.m.acc)) (mP (((.bool p.m.has) : SY) = (.bool p.m.has)) (must (Bool.and (prB (((.int 1 p.m.kind) : SY) = (.int 1 p.m.kind))) (Bool.and (prB (((.int 1 p.m.gr) : SY) = (.int 1 p.m.gr))) (Bool.and (prB (((.int 1 p.m.code) : SY) = (.int 1 p.m.code))) (Bool.and (prB (((.int 3 p.m.mn) : SY) = (.int 3 p.m.mn))) (Bool.and (prB (((.int 3 p.m.mf) : SY) = (.int 3 p.m.mf))) (Bool.and (prB (((.int 3 p.m.mc) : SY) = (.int 3 p.m.mc))) (Bool.and (prB (((.int 3 p.m.ml) : SY) = (.int 3 p.m.ml))) (Bool.and (prB (((.int 4 p.m.bal) : SY) = (.int 4 p.m.bal))) (Bool.and (prB (((.int 4 p.m.acc) : SY) = (.int 4 p.m.acc))) (Bool.and (prB (((.int 1 p.m.icn) : SY) = (.int 1 p.m.icn))) (Bool.and (prB (((.int 2 p.m.icl) : SY) = (.int 2 p.m.icl))) (Bool.and (prB (((.int 3 p.m.iseq) : SY) = (.int 3 p.m.iseq))) (Bool.and (prB (((.int 1 p.m.idep) : SY) = (.int 1 p.m.idep))) (Bool.and (prB (((.int 1 p.m.ip0) : SY) = (.int 1 p.m.ip0))) (Bool.and (prB (((.int 1 p.m.ip1) : SY) = (.int 1 p.m.ip1))) (Bool.and (prB (((.int 1 p.m.ip2) : SY) = (.int 1 p.m.ip2))) (Bool.and (prB (((.int 1 p.m.ip3) : SY) = (.int 1 p.m.ip3))) (Bool.and (prB (((.int 1 p.m.ip4) : SY) = (.int 1 p.m.ip4))) (Bool.and (prB (((.int 1 p.m.ip5) : SY) = (.int 1 p.m.ip5))) (Bool.and (prB (((.imm p.m.hp 5 PtR p.m.ps encP) : SY) = (.imm p.m.hp 5 PtR p.m.ps encP))) (Bool.and (prB (((.int 1 p.m.rc) : SY) = (.int 1 p.m.rc))) (Bool.and (prB (((.str p.m.rv) : SY) = (.str p.m.rv))) (Bool.and (prB (((.int 1 p.m.vg) : SY) = (.int 1 p.m.vg))) (Bool.and (prB (((.int 3 p.m.vn) : SY) = (.int 3 p.m.vn))) (Bool.and (prB (((.imm p.m.hv 2 PrR p.m.vm encR) : SY) = (.imm p.m.hv 2 PrR p.m.vm encR))) (Bool.and (prB (((.int 1 p.m.prn) : SY) = (.int 1 p.m.prn))) (Bool.and (prB (((.int 2 p.m.prl) : SY) = (.int 2 p.m.prl))) (Bool.and (prB (((.bool p.m.has) : SY) = (.bool p.m.has))) (Bool.and (prB (((.imm p.m.hm 2 PrR p.m.ms encR) : SY) = (.imm p.m.hm 2 PrR p.m.ms encR))) (Bool.and (prB (((.imm p.m.he 18 EnR p.m.es encE) : SY) = (.imm p.m.he 18 EnR p.m.es encE))) (Bool.and (prB (((.imm p.m.ht 18 EnR p.m.ts encE) : SY) = (.imm p.m.ht 18 EnR p.m.ts encE))) (true)))))))))))))))))))))))))))))))) (must (mP (((.int 3 p.m.iseq) : SY) = (.int 3 p.m.iseq)) (mP (((.int 1 p.m.idep) : SY) = (.int 1 p.m.idep)) (mP (((.int 3 p.m.iseq) : SY) = (.int 3 p.m.iseq)) (mP (((.int 1 p.m.idep) : SY) = (.int 1 p.m.idep)) (mP (((.int 1 p.m.kind) : SY) = (.int 1 p.m.kind)) (mP (((.int 1 p.m.gr) : SY) = (.int 1 p.m.gr)) (mP (((.int 1 p.m.code) : SY) = (.int 1 p.m.code)) (mP (((.int 3 p.m.mn) : SY) = (.int 3 p.m.mn)) (mP (((.int 3 p.m.mf) : SY) = (.int 3 p.m.mf)) (mP (((.int 3 p.m.mc) : SY) = (.int 3 p.m.mc)) (mP (((.int 3 p.m.ml) : SY) = (.int 3 p.m.ml)) (mP (((.int 4 p.m.bal) : SY) = (.int 4 p.m.bal)) (mP (((.int 4 p.m.acc) : SY) = (.int 4 p.m.acc)) (mP (((.imm p.m.hp 5 PtR p.m.ps encP) : SY) = (.imm p.m.hp 5 PtR p.m.ps encP)) (must (Bool.and (prB (((.int 1 p.m.rc) : SY) = (.int 1 p.m.rc))) (Bool.and (prB (((.str p.m.rv) : SY) = (.str p.m.rv))) (true))) (must (Bool.and (prB (((.int 1 p.m.vg) : SY) = (.int 1 p.m.vg))) (Bool.and (prB (((.int 3 p.m.vn) : SY) = (.int 3 p.m.vn))) (Bool.and (prB (((.imm p.m.hv 2 PrR p.m.vm encR) : SY) = (.imm p.m.hv 2 PrR p.m.vm encR))) (true)))) (must (Bool.and (prB (((.int 1 p.m.prn) : SY) = (.int 1 p.m.prn))) (Bool.and (prB (((.int 2 p.m.prl) : SY) = (.int 2 p.m.prl))) (true))) (mP (((.bool p.m.has) : SY) = (.bool p.m.has)) (mP (((.imm p.m.hm 2 PrR p.m.ms encR) : SY) = (.imm p.m.hm 2 PrR p.m.ms encR)) (mP (((.imm p.m.he 18 EnR p.m.es encE) : SY) = (.imm p.m.he 18 EnR p.m.es encE)) (mP (((.imm p.m.ht 18 EnR p.m.ts encE) : SY) = (.imm p.m.ht 18 EnR p.m.ts encE)) (exB fun p11 : A_parts => mP (([.sy (.imm p.m.hp 5 PtR p.m.ps encP)], .leaf, 0) = I_parts p11) (mP (pre_parts p11) (allB fun r9 : R_parts => mP (((.int 1 p.m.kind) : SY) = (.int 1 p.m.kind)) (mP (((.int 1 p.m.gr) : SY) = (.int 1 p.m.gr)) (mP (((.int 1 p.m.code) : SY) = (.int 1 p.m.code)) (mP (((.int 3 p.m.mn) : SY) = (.int 3 p.m.mn)) (mP (((.int 3 p.m.mf) : SY) = (.int 3 p.m.mf)) (mP (((.int 3 p.m.mc) : SY) = (.int 3 p.m.mc)) (mP (((.int 3 p.m.ml) : SY) = (.int 3 p.m.ml)) (mP (((.int 4 p.m.bal) : SY) = (.int 4 p.m.bal)) (mP (((.int 4 p.m.acc) : SY) = (.int 4 p.m.acc)) (must (Bool.and (prB (((.int 1 p.m.rc) : SY) = (.int 1 p.m.rc))) (Bool.and (prB (((.str p.m.rv) : SY) = (.str p.m.rv))) (true))) (must (Bool.and (prB (((.int 1 p.m.vg) : SY) = (.int 1 p.m.vg))) (Bool.and (prB (((.int 3 p.m.vn) : SY) = (.int 3 p.m.vn))) (Bool.and (prB (((.imm p.m.hv 2 PrR p.m.vm encR) : SY) = (.imm p.m.hv 2 PrR p.m.vm encR))) (true)))) (must (Bool.and (prB (((.int 1 p.m.prn) : SY) = (.int 1 p.m.prn))) (Bool.and (prB (((.int 2 p.m.prl) : SY) = (.int 2 p.m.prl))) (true))) (mP (((.bool p.m.has) : SY) = (.bool p.m.has)) (mP (((.imm p.m.hm 2 PrR p.m.ms encR) : SY) = (.imm p.m.hm 2 PrR p.m.ms encR)) (mP (((.imm p.m.he 18 EnR p.m.es encE) : SY) = (.imm p.m.he 18 EnR p.m.es encE)) (mP (((.imm p.m.ht 18 EnR p.m.ts encE) : SY) = (.imm p.m.ht 18 EnR p.m.ts encE)) (mP (((.int 1 p.m.kind) : SY) = (.int 1 p.m.kind)) (mP (((.int 1 p.m.gr) : SY) = (.int 1 p.m.gr)) (mP (((.int 1 p.m.code) : SY) = (.int 1 p.m.code)) (mP (((.int 3 p.m.mn) : SY) = (.int 3 p.m.mn)) (mP (((.int 3 p.m.mf) : SY) = (.int 3 p.m.mf)) (mP (((.int 3 p.m.mc) : SY) = (.int 3 p.m.mc)) (mP (((.int 3 p.m.ml) : SY) = (.int 3 p.m.ml)) (mP (((.int 4 p.m.bal) : SY) = (.int 4 p.m.bal)) (mP (((.int 4 p.m.acc) : SY) = (.int 4 p.m.acc)) (must (Bool.and (prB (((.int 1 p.m.vg) : SY) = (.int 1 p.m.vg))) (Bool.and (prB (((.int 3 p.m.vn) : SY) = (.int 3 p.m.vn))) (Bool.and (prB (((.imm p.m.hv 2 PrR p.m.vm encR) : SY) = (.imm p.m.hv 2 PrR p.m.vm encR))) (true)))) (must (Bool.and (prB (((.int 1 p.m.prn) : SY) = (.int 1 p.m.prn))) (Bool.and (prB (((.int 2 p.m.prl) : SY) = (.int 2 p.m.prl))) (true))) (mP (((.bool p.m.has) : SY) = (.bool p.m.has)) (mP (((.imm p.m.hm 2 PrR p.m.ms encR) : SY) = (.imm p.m.hm 2 PrR p.m.ms encR)) (mP (((.imm p.m.he 18 EnR p.m.es encE) : SY) = (.imm p.m.he 18 EnR p.m.es encE)) (mP (((.imm p.m.ht 18 EnR p.m.ts encE) : SY) = (.imm p.m.ht 18 EnR p.m.ts encE)) (exB fun p12 : A_procs => mP (([.sy (.imm p.m.hv 2 PrR p.m.vm encR)], .leaf, 0) = I_procs p12) (mP (pre_procs p12) (allB fun r10 : R_procs => mP (((.int 1 p.m.vg) : SY) = (.int 1 p.m.vg)) (mP (((.int 3 p.m.vn) : SY) = (.int 3 p.m.vn)) (mP (((.int 1 p.m.kind) : SY) = (.int 1 p.m.kind)) (mP (((.int 1 p.m.gr) : SY) = (.int 1 p.m.gr)) (mP (((.int 1 p.m.code) : SY) = (.int 1 p.m.code)) (mP (((.int 3 p.m.mn) : SY) = (.int 3 p.m.mn)) (mP (((.int 3 p.m.mf) : SY) = (.int 3 p.m.mf)) (mP (((.int 3 p.m.mc) : SY) = (.int 3 p.m.mc)) (mP (((.int 3 p.m.ml) : SY) = (.int 3 p.m.ml)) (mP (((.int 4 p.m.bal) : SY) = (.int 4 p.m.bal)) (mP (((.int 4 p.m.acc) : SY) = (.int 4 p.m.acc)) (must (Bool.and (prB (((.int 1 p.m.prn) : SY) = (.int 1 p.m.prn))) (Bool.and (prB (((.int 2 p.m.prl) : SY) = (.int 2 p.m.prl))) (true))) (mP (((.bool p.m.has) : SY) = (.bool p.m.has)) (mP (((.imm p.m.hm 2 PrR p.m.ms encR) : SY) = (.imm p.m.hm 2 PrR p.m.ms encR)) (mP (((.imm p.m.he 18 EnR p.m.es encE) : SY) = (.imm p.m.he 18 EnR p.m.es encE)) (mP (((.imm p.m.ht 18 EnR p.m.ts encE) : SY) = (.imm p.m.ht 18 EnR p.m.ts encE)) (mP (((.int 1 p.m.kind) : SY) = (.int 1 p.m.kind)) (mP (((.int 1 p.m.gr) : SY) = (.int 1 p.m.gr)) (mP (((.int 1 p.m.code) : SY) = (.int 1 p.m.code)) (mP (((.int 3 p.m.mn) : SY) = (.int 3 p.m.mn)) (mP (((.int 3 p.m.mf) : SY) = (.int 3 p.m.mf)) (mP (((.int 3 p.m.mc) : SY) = (.int 3 p.m.mc)) (mP (((.int 3 p.m.ml) : SY) = (.int 3 p.m.ml)) (mP (((.int 4 p.m.bal) : SY) = (.int 4 p.m.bal)) (mP (((.int 4 p.m.acc) : SY) = (.int 4 p.m.acc)) (mP (((.bool p.m.has) : SY) = (.bool p.m.has)) (mP (((.imm p.m.hm 2 PrR p.m.ms encR) : SY) = (.imm p.m.hm 2 PrR p.m.ms encR)) (mP (((.imm p.m.he 18 EnR p.m.es encE) : SY) = (.imm p.m.he 18 EnR p.m.es encE)) (mP (((.imm p.m.ht 18 EnR p.m.ts encE) : SY) = (.imm p.m.ht 18 EnR p.m.ts encE)) (exB fun p13 : A_procs => mP (([.sy (.imm p.m.hm 2 PrR p.m.ms encR)], .leaf, 0) = I_procs p13) (mP (pre_procs p13) (allB fun r11 : R_procs => mP (((.int 1 p.m.kind) : SY) = (.int 1 p.m.kind)) (mP (((.int 1 p.m.gr) : SY) = (.int 1 p.m.gr)) (mP (((.int 1 p.m.code) : SY) = (.int 1 p.m.code)) (mP (((.int 3 p.m.mn) : SY) = (.int 3 p.m.mn)) (mP (((.int 3 p.m.mf) : SY) = (.int 3 p.m.mf)) (mP (((.int 3 p.m.mc) : SY) = (.int 3 p.m.mc)) (mP (((.int 3 p.m.ml) : SY) = (.int 3 p.m.ml)) (mP (((.int 4 p.m.bal) : SY) = (.int 4 p.m.bal)) (mP (((.int 4 p.m.acc) : SY) = (.int 4 p.m.acc)) (mP (((.bool p.m.has) : SY) = (.bool p.m.has)) (mP (((.imm p.m.he 18 EnR p.m.es encE) : SY) = (.imm p.m.he 18 EnR p.m.es encE)) (mP (((.imm p.m.ht 18 EnR p.m.ts encE) : SY) = (.imm p.m.ht 18 EnR p.m.ts encE)) (exB fun p14 : A_owns => mP (([.sy (.imm p.m.he 18 EnR p.m.es encE)], .leaf, 0) = I_owns p14) (mP (pre_owns p14) (allB fun r12 : R_owns => mP (((.int 1 p.m.kind) : SY) = (.int 1 p.m.kind)) (mP (((.int 1 p.m.gr) : SY) = (.int 1 p.m.gr)) (mP (((.int 1 p.m.code) : SY) = (.int 1 p.m.code)) (mP (((.int 3 p.m.mn) : SY) = (.int 3 p.m.mn)) (mP (((.int 3 p.m.mf) : SY) = (.int 3 p.m.mf)) (mP (((.int 3 p.m.mc) : SY) = (.int 3 p.m.mc)) (mP (((.int 3 p.m.ml) : SY) = (.int 3 p.m.ml)) (mP (((.int 4 p.m.bal) : SY) = (.int 4 p.m.bal)) (mP (((.int 4 p.m.acc) : SY) = (.int 4 p.m.acc)) (mP (((.bool p.m.has) : SY) = (.bool p.m.has)) (mP (((.imm p.m.ht 18 EnR p.m.ts encE) : SY) = (.imm p.m.ht 18 EnR p.m.ts encE)) (exB fun p15 : A_owns => mP (([.sy (.imm p.m.ht 18 EnR p.m.ts encE)], .leaf, 0) = I_owns p15) (mP (pre_owns p15) (allB fun r13 : R_owns => mP (((.int 1 p.m.kind) : SY) = (.int 1 p.m.kind)) (mP (((.int 1 p.m.gr) : SY) = (.int 1 p.m.gr)) (mP (((.int 1 p.m.code) : SY) = (.int 1 p.m.code)) (mP (((.int 3 p.m.mn) : SY) = (.int 3 p.m.mn)) (mP (((.int 3 p.m.mf) : SY) = (.int 3 p.m.mf)) (mP (((.int 3 p.m.mc) : SY) = (.int 3 p.m.mc)) (mP (((.int 3 p.m.ml) : SY) = (.int 3 p.m.ml)) (mP (((.int 4 p.m.bal) : SY) = (.int 4 p.m.bal)) (mP (((.int 4 p.m.acc) : SY) = (.int 4 p.m.acc)) (mP (((.bool p.m.has) : SY) = (.bool p.m.has)) (exB fun p16 : A_knows => mP (([], .leaf, 0) = I_knows p16) z0))))))))))))))))))))))))))))))))))))))))))))))))))))))))))))))))))))))))))))))))))))))))))))))))))))))))))))))))))))))))))))) (must (Bool.and (prB (((.int 1 p.m.icn) : SY) = (.int 1 p.m.icn))) (Bool.and (prB (((.int 2 p.m.icl) : SY) = (.int 2 p.m.icl))) (true))) (mP (((.int 3 p.m.iseq) : SY) = (.int 3 p.m.iseq)) (mP (((.int 1 p.m.idep) : SY) = (.int 1 p.m.idep)) (mP (((.int 3 p.m.iseq) : SY) = (.int 3 p.m.iseq)) (mP (((.int 1 p.m.idep) : SY) = (.int 1 p.m.idep)) (mP (((.int 1 p.m.kind) : SY) = (.int 1 p.m.kind)) (mP (((.int 1 p.m.gr) : SY) = (.int 1 p.m.gr)) (mP (((.int 1 p.m.code) : SY) = (.int 1 p.m.code)) (mP (((.int 3 p.m.mn) : SY) = (.int 3 p.m.mn)) (mP (((.int 3 p.m.mf) : SY) = (.int 3 p.m.mf)) (mP (((.int 3 p.m.mc) : SY) = (.int 3 p.m.mc)) (mP (((.int 3 p.m.ml) : SY) = (.int 3 p.m.ml)) (mP (((.int 4 p.m.bal) : SY) = (.int 4 p.m.bal)) (mP (((.int 4 p.m.acc) : SY) = (.int 4 p.m.acc)) (mP (((.imm p.m.hp 5 PtR p.m.ps encP) : SY) = (.imm p.m.hp 5 PtR p.m.ps encP)) (must (Bool.and (prB (((.int 1 p.m.rc) : SY) = (.int 1 p.m.rc))) (Bool.and (prB (((.str p.m.rv) : SY) = (.str p.m.rv))) (true))) (must (Bool.and (prB (((.int 1 p.m.vg) : SY) = (.int 1 p.m.vg))) (Bool.and (prB (((.int 3 p.m.vn) : SY) = (.int 3 p.m.vn))) (Bool.and (prB (((.imm p.m.hv 2 PrR p.m.vm encR) : SY) = (.imm p.m.hv 2 PrR p.m.vm encR))) (true)))) (must (Bool.and (prB (((.int 1 p.m.prn) : SY) = (.int 1 p.m.prn))) (Bool.and (prB (((.int 2 p.m.prl) : SY) = (.int 2 p.m.prl))) (true))) (mP (((.bool p.m.has) : SY) = (.bool p.m.has)) (mP (((.imm p.m.hm 2 PrR p.m.ms encR) : SY) = (.imm p.m.hm 2 PrR p.m.ms encR)) (mP (((.imm p.m.he 18 EnR p.m.es encE) : SY) = (.imm p.m.he 18 EnR p.m.es encE)) (mP (((.imm p.m.ht 18 EnR p.m.ts encE) : SY) = (.imm p.m.ht 18 EnR p.m.ts encE)) (exB fun p17 : A_parts => mP (([.sy (.imm p.m.hp 5 PtR p.m.ps encP)], .leaf, 0) = I_parts p17) (mP (pre_parts p17) (allB fun r14 : R_parts => mP (((.int 1 p.m.kind) : SY) = (.int 1 p.m.kind)) (mP (((.int 1 p.m.gr) : SY) = (.int 1 p.m.gr)) (mP (((.int 1 p.m.code) : SY) = (.int 1 p.m.code)) (mP (((.int 3 p.m.mn) : SY) = (.int 3 p.m.mn)) (mP (((.int 3 p.m.mf) : SY) = (.int 3 p.m.mf)) (mP (((.int 3 p.m.mc) : SY) = (.int 3 p.m.mc)) (mP (((.int 3 p.m.ml) : SY) = (.int 3 p.m.ml)) (mP (((.int 4 p.m.bal) : SY) = (.int 4 p.m.bal)) (mP (((.int 4 p.m.acc) : SY) = (.int 4 p.m.acc)) (must (Bool.and (prB (((.int 1 p.m.rc) : SY) = (.int 1 p.m.rc))) (Bool.and (prB (((.str p.m.rv) : SY) = (.str p.m.rv))) (true))) (must (Bool.and (prB (((.int 1 p.m.vg) : SY) = (.int 1 p.m.vg))) (Bool.and (prB (((.int 3 p.m.vn) : SY) = (.int 3 p.m.vn))) (Bool.and (prB (((.imm p.m.hv 2 PrR p.m.vm encR) : SY) = (.imm p.m.hv 2 PrR p.m.vm encR))) (true)))) (must (Bool.and (prB (((.int 1 p.m.prn) : SY) = (.int 1 p.m.prn))) (Bool.and (prB (((.int 2 p.m.prl) : SY) = (.int 2 p.m.prl))) (true))) (mP (((.bool p.m.has) : SY) = (.bool p.m.has)) (mP (((.imm p.m.hm 2 PrR p.m.ms encR) : SY) = (.imm p.m.hm 2 PrR p.m.ms encR)) (mP (((.imm p.m.he 18 EnR p.m.es encE) : SY) = (.imm p.m.he 18 EnR p.m.es encE)) (mP (((.imm p.m.ht 18 EnR p.m.ts encE) : SY) = (.imm p.m.ht 18 EnR p.m.ts encE)) (mP (((.int 1 p.m.kind) : SY) = (.int 1 p.m.kind)) (mP (((.int 1 p.m.gr) : SY) = (.int 1 p.m.gr)) (mP (((.int 1 p.m.code) : SY) = (.int 1 p.m.code)) (mP (((.int 3 p.m.mn) : SY) = (.int 3 p.m.mn)) (mP (((.int 3 p.m.mf) : SY) = (.int 3 p.m.mf)) (mP (((.int 3 p.m.mc) : SY) = (.int 3 p.m.mc)) (mP (((.int 3 p.m.ml) : SY) = (.int 3 p.m.ml)) (mP (((.int 4 p.m.bal) : SY) = (.int 4 p.m.bal)) (mP (((.int 4 p.m.acc) : SY) = (.int 4 p.m.acc)) (must (Bool.and (prB (((.int 1 p.m.vg) : SY) = (.int 1 p.m.vg))) (Bool.and (prB (((.int 3 p.m.vn) : SY) = (.int 3 p.m.vn))) (Bool.and (prB (((.imm p.m.hv 2 PrR p.m.vm encR) : SY) = (.imm p.m.hv 2 PrR p.m.vm encR))) (true)))) (must (Bool.and (prB (((.int 1 p.m.prn) : SY) = (.int 1 p.m.prn))) (Bool.and (prB (((.int 2 p.m.prl) : SY) = (.int 2 p.m.prl))) (true))) (mP (((.bool p.m.has) : SY) = (.bool p.m.has)) (mP (((.imm p.m.hm 2 PrR p.m.ms encR) : SY) = (.imm p.m.hm 2 PrR p.m.ms encR)) (mP (((.imm p.m.he 18 EnR p.m.es encE) : SY) = (.imm p.m.he 18 EnR p.m.es encE)) (mP (((.imm p.m.ht 18 EnR p.m.ts encE) : SY) = (.imm p.m.ht 18 EnR p.m.ts encE)) (exB fun p18 : A_procs => mP (([.sy (.imm p.m.hv 2 PrR p.m.vm encR)], .leaf, 0) = I_procs p18) (mP (pre_procs p18) (allB fun r15 : R_procs => mP (((.int 1 p.m.vg) : SY) = (.int 1 p.m.vg)) (mP (((.int 3 p.m.vn) : SY) = (.int 3 p.m.vn)) (mP (((.int 1 p.m.kind) : SY) = (.int 1 p.m.kind)) (mP (((.int 1 p.m.gr) : SY) = (.int 1 p.m.gr)) (mP (((.int 1 p.m.code) : SY) = (.int 1 p.m.code)) (mP (((.int 3 p.m.mn) : SY) = (.int 3 p.m.mn)) (mP (((.int 3 p.m.mf) : SY) = (.int 3 p.m.mf)) (mP (((.int 3 p.m.mc) : SY) = (.int 3 p.m.mc)) (mP (((.int 3 p.m.ml) : SY) = (.int 3 p.m.ml)) (mP (((.int 4 p.m.bal) : SY) = (.int 4 p.m.bal)) (mP (((.int 4 p.m.acc) : SY) = (.int 4 p.m.acc)) (must (Bool.and (prB (((.int 1 p.m.prn) : SY) = (.int 1 p.m.prn))) (Bool.and (prB (((.int 2 p.m.prl) : SY) = (.int 2 p.m.prl))) (true))) (mP (((.bool p.m.has) : SY) = (.bool p.m.has)) (mP (((.imm p.m.hm 2 PrR p.m.ms encR) : SY) = (.imm p.m.hm 2 PrR p.m.ms encR)) (mP (((.imm p.m.he 18 EnR p.m.es encE) : SY) = (.imm p.m.he 18 EnR p.m.es encE)) (mP (((.imm p.m.ht 18 EnR p.m.ts encE) : SY) = (.imm p.m.ht 18 EnR p.m.ts encE)) (mP (((.int 1 p.m.kind) : SY) = (.int 1 p.m.kind)) (mP (((.int 1 p.m.gr) : SY) = (.int 1 p.m.gr)) (mP (((.int 1 p.m.code) : SY) = (.int 1 p.m.code)) (mP (((.int 3 p.m.mn) : SY) = (.int 3 p.m.mn)) (mP (((.int 3 p.m.mf) : SY) = (.int 3 p.m.mf)) (mP (((.int 3 p.m.mc) : SY) = (.int 3 p.m.mc)) (mP (((.int 3 p.m.ml) : SY) = (.int 3 p.m.ml)) (mP (((.int 4 p.m.bal) : SY) = (.int 4 p.m.bal)) (mP (((.int 4 p.m.acc) : SY) = (.int 4 p.m.acc)) (mP (((.bool p.m.has) : SY) = (.bool p.m.has)) (mP (((.imm p.m.hm 2 PrR p.m.ms encR) : SY) = (.imm p.m.hm 2 PrR p.m.ms encR)) (mP (((.imm p.m.he 18 EnR p.m.es encE) : SY) = (.imm p.m.he 18 EnR p.m.es encE)) (mP (((.imm p.m.ht 18 EnR p.m.ts encE) : SY) = (.imm p.m.ht 18 EnR p.m.ts encE)) (exB fun p19 : A_procs => mP (([.sy (.imm p.m.hm 2 PrR p.m.ms encR)], .leaf, 0) = I_procs p19) (mP (pre_procs p19) (allB fun r16 : R_procs => mP (((.int 1 p.m.kind) : SY) = (.int 1 p.m.kind)) (mP (((.int 1 p.m.gr) : SY) = (.int 1 p.m.gr)) (mP (((.int 1 p.m.code) : SY) = (.int 1 p.m.code)) (mP (((.int 3 p.m.mn) : SY) = (.int 3 p.m.mn)) (mP (((.int 3 p.m.mf) : SY) = (.int 3 p.m.mf)) (mP (((.int 3 p.m.mc) : SY) = (.int 3 p.m.mc)) (mP (((.int 3 p.m.ml) : SY) = (.int 3 p.m.ml)) (mP (((.int 4 p.m.bal) : SY) = (.int 4 p.m.bal)) (mP (((.int 4 p.m.acc) : SY) = (.int 4 p.m.acc)) (mP (((.bool p.m.has) : SY) = (.bool p.m.has)) (mP (((.imm p.m.he 18 EnR p.m.es encE) : SY) = (.imm p.m.he 18 EnR p.m.es encE)) (mP (((.imm p.m.ht 18 EnR p.m.ts encE) : SY) = (.imm p.m.ht 18 EnR p.m.ts encE)) (exB fun p20 : A_owns => mP (([.sy (.imm p.m.he 18 EnR p.m.es encE)], .leaf, 0) = I_owns p20) (mP (pre_owns p20) (allB fun r17 : R_owns => mP (((.int 1 p.m.kind) : SY) = (.int 1 p.m.kind)) (mP (((.int 1 p.m.gr) : SY) = (.int 1 p.m.gr)) (mP (((.int 1 p.m.code) : SY) = (.int 1 p.m.code)) (mP (((.int 3 p.m.mn) : SY) = (.int 3 p.m.mn)) (mP (((.int 3 p.m.mf) : SY) = (.int 3 p.m.mf)) (mP (((.int 3 p.m.mc) : SY) = (.int 3 p.m.mc)) (mP (((.int 3 p.m.ml) : SY) = (.int 3 p.m.ml)) (mP (((.int 4 p.m.bal) : SY) = (.int 4 p.m.bal)) (mP (((.int 4 p.m.acc) : SY) = (.int 4 p.m.acc)) (mP (((.bool p.m.has) : SY) = (.bool p.m.has)) (mP (((.imm p.m.ht 18 EnR p.m.ts encE) : SY) = (.imm p.m.ht 18 EnR p.m.ts encE)) (exB fun p21 : A_owns => mP (([.sy (.imm p.m.ht 18 EnR p.m.ts encE)], .leaf, 0) = I_owns p21) (mP (pre_owns p21) (allB fun r18 : R_owns => mP (((.int 1 p.m.kind) : SY) = (.int 1 p.m.kind)) (mP (((.int 1 p.m.gr) : SY) = (.int 1 p.m.gr)) (mP (((.int 1 p.m.code) : SY) = (.int 1 p.m.code)) (mP (((.int 3 p.m.mn) : SY) = (.int 3 p.m.mn)) (mP (((.int 3 p.m.mf) : SY) = (.int 3 p.m.mf)) (mP (((.int 3 p.m.mc) : SY) = (.int 3 p.m.mc)) (mP (((.int 3 p.m.ml) : SY) = (.int 3 p.m.ml)) (mP (((.int 4 p.m.bal) : SY) = (.int 4 p.m.bal)) (mP (((.int 4 p.m.acc) : SY) = (.int 4 p.m.acc)) (mP (((.bool p.m.has) : SY) = (.bool p.m.has)) (exB fun p22 : A_knows => mP (([], .leaf, 0) = I_knows p22) z0)))))))))))))))))))))))))))))))))))))))))))))))))))))))))))))))))))))))))))))))))))))))))))))))))))))))))))))))))))))))))))))))))))))))))))))))))))))))))))))))))))))))))))))))))))))))))))))))))))))))))))))))))))))))))))))))))))))))))))))))))))))))))))) (must (Bool.and (prB (((.int 1 p.m.icn) : SY) = (.int 1 p.m.icn))) (Bool.and (prB (((.int 2 p.m.icl) : SY) = (.int 2 p.m.icl))) (true))) (mP (((.int 3 p.m.iseq) : SY) = (.int 3 p.m.iseq)) (mP (((.int 1 p.m.idep) : SY) = (.int 1 p.m.idep)) (mP (((.int 3 p.m.iseq) : SY) = (.int 3 p.m.iseq)) (mP (((.int 1 p.m.idep) : SY) = (.int 1 p.m.idep)) (mP (((.int 1 p.m.kind) : SY) = (.int 1 p.m.kind)) (mP (((.int 1 p.m.gr) : SY) = (.int 1 p.m.gr)) (mP (((.int 1 p.m.code) : SY) = (.int 1 p.m.code)) (mP (((.int 3 p.m.mn) : SY) = (.int 3 p.m.mn)) (mP (((.int 3 p.m.mf) : SY) = (.int 3 p.m.mf)) (mP (((.int 3 p.m.mc) : SY) = (.int 3 p.m.mc)) (mP (((.int 3 p.m.ml) : SY) = (.int 3 p.m.ml)) (mP (((.int 4 p.m.bal) : SY) = (.int 4 p.m.bal)) (mP (((.int 4 p.m.acc) : SY) = (.int 4 p.m.acc)) (mP (((.imm p.m.hp 5 PtR p.m.ps encP) : SY) = (.imm p.m.hp 5 PtR p.m.ps encP)) (must (Bool.and (prB (((.int 1 p.m.rc) : SY) = (.int 1 p.m.rc))) (Bool.and (prB (((.str p.m.rv) : SY) = (.str p.m.rv))) (true))) (must (Bool.and (prB (((.int 1 p.m.vg) : SY) = (.int 1 p.m.vg))) (Bool.and (prB (((.int 3 p.m.vn) : SY) = (.int 3 p.m.vn))) (Bool.and (prB (((.imm p.m.hv 2 PrR p.m.vm encR) : SY) = (.imm p.m.hv 2 PrR p.m.vm encR))) (true)))) (must (Bool.and (prB (((.int 1 p.m.prn) : SY) = (.int 1 p.m.prn))) (Bool.and (prB (((.int 2 p.m.prl) : SY) = (.int 2 p.m.prl))) (true))) (mP (((.bool p.m.has) : SY) = (.bool p.m.has)) (mP (((.imm p.m.hm 2 PrR p.m.ms encR) : SY) = (.imm p.m.hm 2 PrR p.m.ms encR)) (mP (((.imm p.m.he 18 EnR p.m.es encE) : SY) = (.imm p.m.he 18 EnR p.m.es encE)) (mP (((.imm p.m.ht 18 EnR p.m.ts encE) : SY) = (.imm p.m.ht 18 EnR p.m.ts encE)) (exB fun p23 : A_parts => mP (([.sy (.imm p.m.hp 5 PtR p.m.ps encP)], .leaf, 0) = I_parts p23) (mP (pre_parts p23) (allB fun r19 : R_parts => mP (((.int 1 p.m.kind) : SY) = (.int 1 p.m.kind)) (mP (((.int 1 p.m.gr) : SY) = (.int 1 p.m.gr)) (mP (((.int 1 p.m.code) : SY) = (.int 1 p.m.code)) (mP (((.int 3 p.m.mn) : SY) = (.int 3 p.m.mn)) (mP (((.int 3 p.m.mf) : SY) = (.int 3 p.m.mf)) (mP (((.int 3 p.m.mc) : SY) = (.int 3 p.m.mc)) (mP (((.int 3 p.m.ml) : SY) = (.int 3 p.m.ml)) (mP (((.int 4 p.m.bal) : SY) = (.int 4 p.m.bal)) (mP (((.int 4 p.m.acc) : SY) = (.int 4 p.m.acc)) (must (Bool.and (prB (((.int 1 p.m.rc) : SY) = (.int 1 p.m.rc))) (Bool.and (prB (((.str p.m.rv) : SY) = (.str p.m.rv))) (true))) (must (Bool.and (prB (((.int 1 p.m.vg) : SY) = (.int 1 p.m.vg))) (Bool.and (prB (((.int 3 p.m.vn) : SY) = (.int 3 p.m.vn))) (Bool.and (prB (((.imm p.m.hv 2 PrR p.m.vm encR) : SY) = (.imm p.m.hv 2 PrR p.m.vm encR))) (true)))) (must (Bool.and (prB (((.int 1 p.m.prn) : SY) = (.int 1 p.m.prn))) (Bool.and (prB (((.int 2 p.m.prl) : SY) = (.int 2 p.m.prl))) (true))) (mP (((.bool p.m.has) : SY) = (.bool p.m.has)) (mP (((.imm p.m.hm 2 PrR p.m.ms encR) : SY) = (.imm p.m.hm 2 PrR p.m.ms encR)) (mP (((.imm p.m.he 18 EnR p.m.es encE) : SY) = (.imm p.m.he 18 EnR p.m.es encE)) (mP (((.imm p.m.ht 18 EnR p.m.ts encE) : SY) = (.imm p.m.ht 18 EnR p.m.ts encE)) (mP (((.int 1 p.m.kind) : SY) = (.int 1 p.m.kind)) (mP (((.int 1 p.m.gr) : SY) = (.int 1 p.m.gr)) (mP (((.int 1 p.m.code) : SY) = (.int 1 p.m.code)) (mP (((.int 3 p.m.mn) : SY) = (.int 3 p.m.mn)) (mP (((.int 3 p.m.mf) : SY) = (.int 3 p.m.mf)) (mP (((.int 3 p.m.mc) : SY) = (.int 3 p.m.mc)) (mP (((.int 3 p.m.ml) : SY) = (.int 3 p.m.ml)) (mP (((.int 4 p.m.bal) : SY) = (.int 4 p.m.bal)) (mP (((.int 4 p.m.acc) : SY) = (.int 4 p.m.acc)) (must (Bool.and (prB (((.int 1 p.m.vg) : SY) = (.int 1 p.m.vg))) (Bool.and (prB (((.int 3 p.m.vn) : SY) = (.int 3 p.m.vn))) (Bool.and (prB (((.imm p.m.hv 2 PrR p.m.vm encR) : SY) = (.imm p.m.hv 2 PrR p.m.vm encR))) (true)))) (must (Bool.and (prB (((.int 1 p.m.prn) : SY) = (.int 1 p.m.prn))) (Bool.and (prB (((.int 2 p.m.prl) : SY) = (.int 2 p.m.prl))) (true))) (mP (((.bool p.m.has) : SY) = (.bool p.m.has)) (mP (((.imm p.m.hm 2 PrR p.m.ms encR) : SY) = (.imm p.m.hm 2 PrR p.m.ms encR)) (mP (((.imm p.m.he 18 EnR p.m.es encE) : SY) = (.imm p.m.he 18 EnR p.m.es encE)) (mP (((.imm p.m.ht 18 EnR p.m.ts encE) : SY) = (.imm p.m.ht 18 EnR p.m.ts encE)) (exB fun p24 : A_procs => mP (([.sy (.imm p.m.hv 2 PrR p.m.vm encR)], .leaf, 0) = I_procs p24) (mP (pre_procs p24) (allB fun r20 : R_procs => mP (((.int 1 p.m.vg) : SY) = (.int 1 p.m.vg)) (mP (((.int 3 p.m.vn) : SY) = (.int 3 p.m.vn)) (mP (((.int 1 p.m.kind) : SY) = (.int 1 p.m.kind)) (mP (((.int 1 p.m.gr) : SY) = (.int 1 p.m.gr)) (mP (((.int 1 p.m.code) : SY) = (.int 1 p.m.code)) (mP (((.int 3 p.m.mn) : SY) = (.int 3 p.m.mn)) (mP (((.int 3 p.m.mf) : SY) = (.int 3 p.m.mf)) (mP (((.int 3 p.m.mc) : SY) = (.int 3 p.m.mc)) (mP (((.int 3 p.m.ml) : SY) = (.int 3 p.m.ml)) (mP (((.int 4 p.m.bal) : SY) = (.int 4 p.m.bal)) (mP (((.int 4 p.m.acc) : SY) = (.int 4 p.m.acc)) (must (Bool.and (prB (((.int 1 p.m.prn) : SY) = (.int 1 p.m.prn))) (Bool.and (prB (((.int 2 p.m.prl) : SY) = (.int 2 p.m.prl))) (true))) (mP (((.bool p.m.has) : SY) = (.bool p.m.has)) (mP (((.imm p.m.hm 2 PrR p.m.ms encR) : SY) = (.imm p.m.hm 2 PrR p.m.ms encR)) (mP (((.imm p.m.he 18 EnR p.m.es encE) : SY) = (.imm p.m.he 18 EnR p.m.es encE)) (mP (((.imm p.m.ht 18 EnR p.m.ts encE) : SY) = (.imm p.m.ht 18 EnR p.m.ts encE)) (mP (((.int 1 p.m.kind) : SY) = (.int 1 p.m.kind)) (mP (((.int 1 p.m.gr) : SY) = (.int 1 p.m.gr)) (mP (((.int 1 p.m.code) : SY) = (.int 1 p.m.code)) (mP (((.int 3 p.m.mn) : SY) = (.int 3 p.m.mn)) (mP (((.int 3 p.m.mf) : SY) = (.int 3 p.m.mf)) (mP (((.int 3 p.m.mc) : SY) = (.int 3 p.m.mc)) (mP (((.int 3 p.m.ml) : SY) = (.int 3 p.m.ml)) (mP (((.int 4 p.m.bal) : SY) = (.int 4 p.m.bal)) (mP (((.int 4 p.m.acc) : SY) = (.int 4 p.m.acc)) (mP (((.bool p.m.has) : SY) = (.bool p.m.has)) (mP (((.imm p.m.hm 2 PrR p.m.ms encR) : SY) = (.imm p.m.hm 2 PrR p.m.ms encR)) (mP (((.imm p.m.he 18 EnR p.m.es encE) : SY) = (.imm p.m.he 18 EnR p.m.es encE)) (mP (((.imm p.m.ht 18 EnR p.m.ts encE) : SY) = (.imm p.m.ht 18 EnR p.m.ts encE)) (exB fun p25 : A_procs => mP (([.sy (.imm p.m.hm 2 PrR p.m.ms encR)], .leaf, 0) = I_procs p25) (mP (pre_procs p25) (allB fun r21 : R_procs => mP (((.int 1 p.m.kind) : SY) = (.int 1 p.m.kind)) (mP (((.int 1 p.m.gr) : SY) = (.int 1 p.m.gr)) (mP (((.int 1 p.m.code) : SY) = (.int 1 p.m.code)) (mP (((.int 3 p.m.mn) : SY) = (.int 3 p.m.mn)) (mP (((.int 3 p.m.mf) : SY) = (.int 3 p.m.mf)) (mP (((.int 3 p.m.mc) : SY) = (.int 3 p.m.mc)) (mP (((.int 3 p.m.ml) : SY) = (.int 3 p.m.ml)) (mP (((.int 4 p.m.bal) : SY) = (.int 4 p.m.bal)) (mP (((.int 4 p.m.acc) : SY) = (.int 4 p.m.acc)) (mP (((.bool p.m.has) : SY) = (.bool p.m.has)) (mP (((.imm p.m.he 18 EnR p.m.es encE) : SY) = (.imm p.m.he 18 EnR p.m.es encE)) (mP (((.imm p.m.ht 18 EnR p.m.ts encE) : SY) = (.imm p.m.ht 18 EnR p.m.ts encE)) (exB fun p26 : A_owns => mP (([.sy (.imm p.m.he 18 EnR p.m.es encE)], .leaf, 0) = I_owns p26) (mP (pre_owns p26) (allB fun r22 : R_owns => mP (((.int 1 p.m.kind) : SY) = (.int 1 p.m.kind)) (mP (((.int 1 p.m.gr) : SY) = (.int 1 p.m.gr)) (mP (((.int 1 p.m.code) : SY) = (.int 1 p.m.code)) (mP (((.int 3 p.m.mn) : SY) = (.int 3 p.m.mn)) (mP (((.int 3 p.m.mf) : SY) = (.int 3 p.m.mf)) (mP (((.int 3 p.m.mc) : SY) = (.int 3 p.m.mc)) (mP (((.int 3 p.m.ml) : SY) = (.int 3 p.m.ml)) (mP (((.int 4 p.m.bal) : SY) = (.int 4 p.m.bal)) (mP (((.int 4 p.m.acc) : SY) = (.int 4 p.m.acc)) (mP (((.bool p.m.has) : SY) = (.bool p.m.has)) (mP (((.imm p.m.ht 18 EnR p.m.ts encE) : SY) = (.imm p.m.ht 18 EnR p.m.ts encE)) (exB fun p27 : A_owns => mP (([.sy (.imm p.m.ht 18 EnR p.m.ts encE)], .leaf, 0) = I_owns p27) (mP (pre_owns p27) (allB fun r23 : R_owns => mP (((.int 1 p.m.kind) : SY) = (.int 1 p.m.kind)) (mP (((.int 1 p.m.gr) : SY) = (.int 1 p.m.gr)) (mP (((.int 1 p.m.code) : SY) = (.int 1 p.m.code)) (mP (((.int 3 p.m.mn) : SY) = (.int 3 p.m.mn)) (mP (((.int 3 p.m.mf) : SY) = (.int 3 p.m.mf)) (mP (((.int 3 p.m.mc) : SY) = (.int 3 p.m.mc)) (mP (((.int 3 p.m.ml) : SY) = (.int 3 p.m.ml)) (mP (((.int 4 p.m.bal) : SY) = (.int 4 p.m.bal)) (mP (((.int 4 p.m.acc) : SY) = (.int 4 p.m.acc)) (mP (((.bool p.m.has) : SY) = (.bool p.m.has)) (must (Bool.and (prB (((.int 1 p.m.kind) : SY) = (.int 1 p.m.kind))) (Bool.and (prB (((.int 1 p.m.gr) : SY) = (.int 1 p.m.gr))) (Bool.and (prB (((.int 1 p.m.code) : SY) = (.int 1 p.m.code))) (Bool.and (prB (((.int 3 p.m.mn) : SY) = (.int 3 p.m.mn))) (Bool.and (prB (((.int 3 p.m.mf) : SY) = (.int 3 p.m.mf))) (Bool.and (prB (((.int 3 p.m.mc) : SY) = (.int 3 p.m.mc))) (Bool.and (prB (((.int 3 p.m.ml) : SY) = (.int 3 p.m.ml))) (Bool.and (prB (((.int 4 p.m.bal) : SY) = (.int 4 p.m.bal))) (Bool.and (prB (((.int 4 p.m.acc) : SY) = (.int 4 p.m.acc))) (Bool.and (prB (((.int 1 p.m.icn) : SY) = (.int 1 p.m.icn))) (Bool.and (prB (((.int 2 p.m.icl) : SY) = (.int 2 p.m.icl))) (Bool.and (prB (((.int 3 p.m.iseq) : SY) = (.int 3 p.m.iseq))) (Bool.and (prB (((.int 1 p.m.idep) : SY) = (.int 1 p.m.idep))) (Bool.and (prB (((.int 1 p.m.ip0) : SY) = (.int 1 p.m.ip0))) (Bool.and (prB (((.int 1 p.m.ip1) : SY) = (.int 1 p.m.ip1))) (Bool.and (prB (((.int 1 p.m.ip2) : SY) = (.int 1 p.m.ip2))) (Bool.and (prB (((.int 1 p.m.ip3) : SY) = (.int 1 p.m.ip3))) (Bool.and (prB (((.int 1 p.m.ip4) : SY) = (.int 1 p.m.ip4))) (Bool.and (prB (((.int 1 p.m.ip5) : SY) = (.int 1 p.m.ip5))) (Bool.and (prB (((.imm p.m.hp 5 PtR p.m.ps encP) : SY) = (.imm p.m.hp 5 PtR p.m.ps encP))) (Bool.and (prB (((.int 1 p.m.rc) : SY) = (.int 1 p.m.rc))) (Bool.and (prB (((.str p.m.rv) : SY) = (.str p.m.rv))) (Bool.and (prB (((.int 1 p.m.vg) : SY) = (.int 1 p.m.vg))) (Bool.and (prB (((.int 3 p.m.vn) : SY) = (.int 3 p.m.vn))) (Bool.and (prB (((.imm p.m.hv 2 PrR p.m.vm encR) : SY) = (.imm p.m.hv 2 PrR p.m.vm encR))) (Bool.and (prB (((.int 1 p.m.prn) : SY) = (.int 1 p.m.prn))) (Bool.and (prB (((.int 2 p.m.prl) : SY) = (.int 2 p.m.prl))) (Bool.and (prB (((.bool p.m.has) : SY) = (.bool p.m.has))) (Bool.and (prB (((.imm p.m.hm 2 PrR p.m.ms encR) : SY) = (.imm p.m.hm 2 PrR p.m.ms encR))) (Bool.and (prB (((.imm p.m.he 18 EnR p.m.es encE) : SY) = (.imm p.m.he 18 EnR p.m.es encE))) (Bool.and (prB (((.imm p.m.ht 18 EnR p.m.ts encE) : SY) = (.imm p.m.ht 18 EnR p.m.ts encE))) (true)))))))))))))))))))))))))))))))) (must (mP (((.int 3 p.m.iseq) : SY) = (.int 3 p.m.iseq)) (mP (((.int 1 p.m.idep) : SY) = (.int 1 p.m.idep)) (mP (((.int 3 p.m.iseq) : SY) = (.int 3 p.m.iseq)) (mP (((.int 1 p.m.idep) : SY) = (.int 1 p.m.idep)) (mP (((.int 1 p.m.kind) : SY) = (.int 1 p.m.kind)) (mP (((.int 1 p.m.gr) : SY) = (.int 1 p.m.gr)) (mP (((.int 1 p.m.code) : SY) = (.int 1 p.m.code)) (mP (((.int 3 p.m.mn) : SY) = (.int 3 p.m.mn)) (mP (((.int 3 p.m.mf) : SY) = (.int 3 p.m.mf)) (mP (((.int 3 p.m.mc) : SY) = (.int 3 p.m.mc)) (mP (((.int 3 p.m.ml) : SY) = (.int 3 p.m.ml)) (mP (((.int 4 p.m.bal) : SY) = (.int 4 p.m.bal)) (mP (((.int 4 p.m.acc) : SY) = (.int 4 p.m.acc)) (mP (((.imm p.m.hp 5 PtR p.m.ps encP) : SY) = (.imm p.m.hp 5 PtR p.m.ps encP)) (must (Bool.and (prB (((.int 1 p.m.rc) : SY) = (.int 1 p.m.rc))) (Bool.and (prB (((.str p.m.rv) : SY) = (.str p.m.rv))) (true))) (must (Bool.and (prB (((.int 1 p.m.vg) : SY) = (.int 1 p.m.vg))) (Bool.and (prB (((.int 3 p.m.vn) : SY) = (.int 3 p.m.vn))) (Bool.and (prB (((.imm p.m.hv 2 PrR p.m.vm encR) : SY) = (.imm p.m.hv 2 PrR p.m.vm encR))) (true)))) (must (Bool.and (prB (((.int 1 p.m.prn) : SY) = (.int 1 p.m.prn))) (Bool.and (prB (((.int 2 p.m.prl) : SY) = (.int 2 p.m.prl))) (true))) (mP (((.bool p.m.has) : SY) = (.bool p.m.has)) (mP (((.imm p.m.hm 2 PrR p.m.ms encR) : SY) = (.imm p.m.hm 2 PrR p.m.ms encR)) (mP (((.imm p.m.he 18 EnR p.m.es encE) : SY) = (.imm p.m.he 18 EnR p.m.es encE)) (mP (((.imm p.m.ht 18 EnR p.m.ts encE) : SY) = (.imm p.m.ht 18 EnR p.m.ts encE)) (exB fun p28 : A_parts => mP (([.sy (.imm p.m.hp 5 PtR p.m.ps encP)], .leaf, 0) = I_parts p28) (mP (pre_parts p28) (allB fun r24 : R_parts => mP (((.int 1 p.m.kind) : SY) = (.int 1 p.m.kind)) (mP (((.int 1 p.m.gr) : SY) = (.int 1 p.m.gr)) (mP (((.int 1 p.m.code) : SY) = (.int 1 p.m.code)) (mP (((.int 3 p.m.mn) : SY) = (.int 3 p.m.mn)) (mP (((.int 3 p.m.mf) : SY) = (.int 3 p.m.mf)) (mP (((.int 3 p.m.mc) : SY) = (.int 3 p.m.mc)) (mP (((.int 3 p.m.ml) : SY) = (.int 3 p.m.ml)) (mP (((.int 4 p.m.bal) : SY) = (.int 4 p.m.bal)) (mP (((.int 4 p.m.acc) : SY) = (.int 4 p.m.acc)) (must (Bool.and (prB (((.int 1 p.m.rc) : SY) = (.int 1 p.m.rc))) (Bool.and (prB (((.str p.m.rv) : SY) = (.str p.m.rv))) (true))) (must (Bool.and (prB (((.int 1 p.m.vg) : SY) = (.int 1 p.m.vg))) (Bool.and (prB (((.int 3 p.m.vn) : SY) = (.int 3 p.m.vn))) (Bool.and (prB (((.imm p.m.hv 2 PrR p.m.vm encR) : SY) = (.imm p.m.hv 2 PrR p.m.vm encR))) (true)))) (must (Bool.and (prB (((.int 1 p.m.prn) : SY) = (.int 1 p.m.prn))) (Bool.and (prB (((.int 2 p.m.prl) : SY) = (.int 2 p.m.prl))) (true))) (mP (((.bool p.m.has) : SY) = (.bool p.m.has)) (mP (((.imm p.m.hm 2 PrR p.m.ms encR) : SY) = (.imm p.m.hm 2 PrR p.m.ms encR)) (mP (((.imm p.m.he 18 EnR p.m.es encE) : SY) = (.imm p.m.he 18 EnR p.m.es encE)) (mP (((.imm p.m.ht 18 EnR p.m.ts encE) : SY) = (.imm p.m.ht 18 EnR p.m.ts encE)) (mP (((.int 1 p.m.kind) : SY) = (.int 1 p.m.kind)) (mP (((.int 1 p.m.gr) : SY) = (.int 1 p.m.gr)) (mP (((.int 1 p.m.code) : SY) = (.int 1 p.m.code)) (mP (((.int 3 p.m.mn) : SY) = (.int 3 p.m.mn)) (mP (((.int 3 p.m.mf) : SY) = (.int 3 p.m.mf)) (mP (((.int 3 p.m.mc) : SY) = (.int 3 p.m.mc)) (mP (((.int 3 p.m.ml) : SY) = (.int 3 p.m.ml)) (mP (((.int 4 p.m.bal) : SY) = (.int 4 p.m.bal)) (mP (((.int 4 p.m.acc) : SY) = (.int 4 p.m.acc)) (must (Bool.and (prB (((.int 1 p.m.vg) : SY) = (.int 1 p.m.vg))) (Bool.and (prB (((.int 3 p.m.vn) : SY) = (.int 3 p.m.vn))) (Bool.and (prB (((.imm p.m.hv 2 PrR p.m.vm encR) : SY) = (.imm p.m.hv 2 PrR p.m.vm encR))) (true)))) (must (Bool.and (prB (((.int 1 p.m.prn) : SY) = (.int 1 p.m.prn))) (Bool.and (prB (((.int 2 p.m.prl) : SY) = (.int 2 p.m.prl))) (true))) (mP (((.bool p.m.has) : SY) = (.bool p.m.has)) (mP (((.imm p.m.hm 2 PrR p.m.ms encR) : SY) = (.imm p.m.hm 2 PrR p.m.ms encR)) (mP (((.imm p.m.he 18 EnR p.m.es encE) : SY) = (.imm p.m.he 18 EnR p.m.es encE)) (mP (((.imm p.m.ht 18 EnR p.m.ts encE) : SY) = (.imm p.m.ht 18 EnR p.m.ts encE)) (exB fun p29 : A_procs => mP (([.sy (.imm p.m.hv 2 PrR p.m.vm encR)], .leaf, 0) = I_procs p29) (mP (pre_procs p29) (allB fun r25 : R_procs => mP (((.int 1 p.m.vg) : SY) = (.int 1 p.m.vg)) (mP (((.int 3 p.m.vn) : SY) = (.int 3 p.m.vn)) (mP (((.int 1 p.m.kind) : SY) = (.int 1 p.m.kind)) (mP (((.int 1 p.m.gr) : SY) = (.int 1 p.m.gr)) (mP (((.int 1 p.m.code) : SY) = (.int 1 p.m.code)) (mP (((.int 3 p.m.mn) : SY) = (.int 3 p.m.mn)) (mP (((.int 3 p.m.mf) : SY) = (.int 3 p.m.mf)) (mP (((.int 3 p.m.mc) : SY) = (.int 3 p.m.mc)) (mP (((.int 3 p.m.ml) : SY) = (.int 3 p.m.ml)) (mP (((.int 4 p.m.bal) : SY) = (.int 4 p.m.bal)) (mP (((.int 4 p.m.acc) : SY) = (.int 4 p.m.acc)) (must (Bool.and (prB (((.int 1 p.m.prn) : SY) = (.int 1 p.m.prn))) (Bool.and (prB (((.int 2 p.m.prl) : SY) = (.int 2 p.m.prl))) (true))) (mP (((.bool p.m.has) : SY) = (.bool p.m.has)) (mP (((.imm p.m.hm 2 PrR p.m.ms encR) : SY) = (.imm p.m.hm 2 PrR p.m.ms encR)) (mP (((.imm p.m.he 18 EnR p.m.es encE) : SY) = (.imm p.m.he 18 EnR p.m.es encE)) (mP (((.imm p.m.ht 18 EnR p.m.ts encE) : SY) = (.imm p.m.ht 18 EnR p.m.ts encE)) (mP (((.int 1 p.m.kind) : SY) = (.int 1 p.m.kind)) (mP (((.int 1 p.m.gr) : SY) = (.int 1 p.m.gr)) (mP (((.int 1 p.m.code) : SY) = (.int 1 p.m.code)) (mP (((.int 3 p.m.mn) : SY) = (.int 3 p.m.mn)) (mP (((.int 3 p.m.mf) : SY) = (.int 3 p.m.mf)) (mP (((.int 3 p.m.mc) : SY) = (.int 3 p.m.mc)) (mP (((.int 3 p.m.ml) : SY) = (.int 3 p.m.ml)) (mP (((.int 4 p.m.bal) : SY) = (.int 4 p.m.bal)) (mP (((.int 4 p.m.acc) : SY) = (.int 4 p.m.acc)) (mP (((.bool p.m.has) : SY) = (.bool p.m.has)) (mP (((.imm p.m.hm 2 PrR p.m.ms encR) : SY) = (.imm p.m.hm 2 PrR p.m.ms encR)) (mP (((.imm p.m.he 18 EnR p.m.es encE) : SY) = (.imm p.m.he 18 EnR p.m.es encE)) (mP (((.imm p.m.ht 18 EnR p.m.ts encE) : SY) = (.imm p.m.ht 18 EnR p.m.ts encE)) (exB fun p30 : A_procs => mP (([.sy (.imm p.m.hm 2 PrR p.m.ms encR)], .leaf, 0) = I_procs p30) (mP (pre_procs p30) (allB fun r26 : R_procs => mP (((.int 1 p.m.kind) : SY) = (.int 1 p.m.kind)) (mP (((.int 1 p.m.gr) : SY) = (.int 1 p.m.gr)) (mP (((.int 1 p.m.code) : SY) = (.int 1 p.m.code)) (mP (((.int 3 p.m.mn) : SY) = (.int 3 p.m.mn)) (mP (((.int 3 p.m.mf) : SY) = (.int 3 p.m.mf)) (mP (((.int 3 p.m.mc) : SY) = (.int 3 p.m.mc)) (mP (((.int 3 p.m.ml) : SY) = (.int 3 p.m.ml)) (mP (((.int 4 p.m.bal) : SY) = (.int 4 p.m.bal)) (mP (((.int 4 p.m.acc) : SY) = (.int 4 p.m.acc)) (mP (((.bool p.m.has) : SY) = (.bool p.m.has)) (mP (((.imm p.m.he 18 EnR p.m.es encE) : SY) = (.imm p.m.he 18 EnR p.m.es encE)) (mP (((.imm p.m.ht 18 EnR p.m.ts encE) : SY) = (.imm p.m.ht 18 EnR p.m.ts encE)) (exB fun p31 : A_owns => mP (([.sy (.imm p.m.he 18 EnR p.m.es encE)], .leaf, 0) = I_owns p31) (mP (pre_owns p31) (allB fun r27 : R_owns => mP (((.int 1 p.m.kind) : SY) = (.int 1 p.m.kind)) (mP (((.int 1 p.m.gr) : SY) = (.int 1 p.m.gr)) (mP (((.int 1 p.m.code) : SY) = (.int 1 p.m.code)) (mP (((.int 3 p.m.mn) : SY) = (.int 3 p.m.mn)) (mP (((.int 3 p.m.mf) : SY) = (.int 3 p.m.mf)) (mP (((.int 3 p.m.mc) : SY) = (.int 3 p.m.mc)) (mP (((.int 3 p.m.ml) : SY) = (.int 3 p.m.ml)) (mP (((.int 4 p.m.bal) : SY) = (.int 4 p.m.bal)) (mP (((.int 4 p.m.acc) : SY) = (.int 4 p.m.acc)) (mP (((.bool p.m.has) : SY) = (.bool p.m.has)) (mP (((.imm p.m.ht 18 EnR p.m.ts encE) : SY) = (.imm p.m.ht 18 EnR p.m.ts encE)) (exB fun p32 : A_owns => mP (([.sy (.imm p.m.ht 18 EnR p.m.ts encE)], .leaf, 0) = I_owns p32) (mP (pre_owns p32) (allB fun r28 : R_owns => mP (((.int 1 p.m.kind) : SY) = (.int 1 p.m.kind)) (mP (((.int 1 p.m.gr) : SY) = (.int 1 p.m.gr)) (mP (((.int 1 p.m.code) : SY) = (.int 1 p.m.code)) (mP (((.int 3 p.m.mn) : SY) = (.int 3 p.m.mn)) (mP (((.int 3 p.m.mf) : SY) = (.int 3 p.m.mf)) (mP (((.int 3 p.m.mc) : SY) = (.int 3 p.m.mc)) (mP (((.int 3 p.m.ml) : SY) = (.int 3 p.m.ml)) (mP (((.int 4 p.m.bal) : SY) = (.int 4 p.m.bal)) (mP (((.int 4 p.m.acc) : SY) = (.int 4 p.m.acc)) (mP (((.bool p.m.has) : SY) = (.bool p.m.has)) (exB fun p33 : A_knows => mP (([], .leaf, 0) = I_knows p33) z0))))))))))))))))))))))))))))))))))))))))))))))))))))))))))))))))))))))))))))))))))))))))))))))))))))))))))))))))))))))))))))) (must (Bool.and (prB (((.int 1 p.m.icn) : SY) = (.int 1 p.m.icn))) (Bool.and (prB (((.int 2 p.m.icl) : SY) = (.int 2 p.m.icl))) (true))) (mP (((.int 3 p.m.iseq) : SY) = (.int 3 p.m.iseq)) (mP (((.int 1 p.m.idep) : SY) = (.int 1 p.m.idep)) (mP (((.int 3 p.m.iseq) : SY) = (.int 3 p.m.iseq)) (mP (((.int 1 p.m.idep) : SY) = (.int 1 p.m.idep)) (mP (((.int 1 p.m.kind) : SY) = (.int 1 p.m.kind)) (mP (((.int 1 p.m.gr) : SY) = (.int 1 p.m.gr)) (mP (((.int 1 p.m.code) : SY) = (.int 1 p.m.code)) (mP (((.int 3 p.m.mn) : SY) = (.int 3 p.m.mn)) (mP (((.int 3 p.m.mf) : SY) = (.int 3 p.m.mf)) (mP (((.int 3 p.m.mc) : SY) = (.int 3 p.m.mc)) (mP (((.int 3 p.m.ml) : SY) = (.int 3 p.m.ml)) (mP (((.int 4 p.m.bal) : SY) = (.int 4 p.m.bal)) (mP (((.int 4 p.m.acc) : SY) = (.int 4 p.m.acc)) (mP (((.imm p.m.hp 5 PtR p.m.ps encP) : SY) = (.imm p.m.hp 5 PtR p.m.ps encP)) (must (Bool.and (prB (((.int 1 p.m.rc) : SY) = (.int 1 p.m.rc))) (Bool.and (prB (((.str p.m.rv) : SY) = (.str p.m.rv))) (true))) (must (Bool.and (prB (((.int 1 p.m.vg) : SY) = (.int 1 p.m.vg))) (Bool.and (prB (((.int 3 p.m.vn) : SY) = (.int 3 p.m.vn))) (Bool.and (prB (((.imm p.m.hv 2 PrR p.m.vm encR) : SY) = (.imm p.m.hv 2 PrR p.m.vm encR))) (true)))) (must (Bool.and (prB (((.int 1 p.m.prn) : SY) = (.int 1 p.m.prn))) (Bool.and (prB (((.int 2 p.m.prl) : SY) = (.int 2 p.m.prl))) (true))) (mP (((.bool p.m.has) : SY) = (.bool p.m.has)) (mP (((.imm p.m.hm 2 PrR p.m.ms encR) : SY) = (.imm p.m.hm 2 PrR p.m.ms encR)) (mP (((.imm p.m.he 18 EnR p.m.es encE) : SY) = (.imm p.m.he 18 EnR p.m.es encE)) (mP (((.imm p.m.ht 18 EnR p.m.ts encE) : SY) = (.imm p.m.ht 18 EnR p.m.ts encE)) (exB fun p34 : A_parts => mP (([.sy (.imm p.m.hp 5 PtR p.m.ps encP)], .leaf, 0) = I_parts p34) (mP (pre_parts p34) (allB fun r29 : R_parts => mP (((.int 1 p.m.kind) : SY) = (.int 1 p.m.kind)) (mP (((.int 1 p.m.gr) : SY) = (.int 1 p.m.gr)) (mP (((.int 1 p.m.code) : SY) = (.int 1 p.m.code)) (mP (((.int 3 p.m.mn) : SY) = (.int 3 p.m.mn)) (mP (((.int 3 p.m.mf) : SY) = (.int 3 p.m.mf)) (mP (((.int 3 p.m.mc) : SY) = (.int 3 p.m.mc)) (mP (((.int 3 p.m.ml) : SY) = (.int 3 p.m.ml)) (mP (((.int 4 p.m.bal) : SY) = (.int 4 p.m.bal)) (mP (((.int 4 p.m.acc) : SY) = (.int 4 p.m.acc)) (must (Bool.and (prB (((.int 1 p.m.rc) : SY) = (.int 1 p.m.rc))) (Bool.and (prB (((.str p.m.rv) : SY) = (.str p.m.rv))) (true))) (must (Bool.and (prB (((.int 1 p.m.vg) : SY) = (.int 1 p.m.vg))) (Bool.and (prB (((.int 3 p.m.vn) : SY) = (.int 3 p.m.vn))) (Bool.and (prB (((.imm p.m.hv 2 PrR p.m.vm encR) : SY) = (.imm p.m.hv 2 PrR p.m.vm encR))) (true)))) (must (Bool.and (prB (((.int 1 p.m.prn) : SY) = (.int 1 p.m.prn))) (Bool.and (prB (((.int 2 p.m.prl) : SY) = (.int 2 p.m.prl))) (true))) (mP (((.bool p.m.has) : SY) = (.bool p.m.has)) (mP (((.imm p.m.hm 2 PrR p.m.ms encR) : SY) = (.imm p.m.hm 2 PrR p.m.ms encR)) (mP (((.imm p.m.he 18 EnR p.m.es encE) : SY) = (.imm p.m.he 18 EnR p.m.es encE)) (mP (((.imm p.m.ht 18 EnR p.m.ts encE) : SY) = (.imm p.m.ht 18 EnR p.m.ts encE)) (mP (((.int 1 p.m.kind) : SY) = (.int 1 p.m.kind)) (mP (((.int 1 p.m.gr) : SY) = (.int 1 p.m.gr)) (mP (((.int 1 p.m.code) : SY) = (.int 1 p.m.code)) (mP (((.int 3 p.m.mn) : SY) = (.int 3 p.m.mn)) (mP (((.int 3 p.m.mf) : SY) = (.int 3 p.m.mf)) (mP (((.int 3 p.m.mc) : SY) = (.int 3 p.m.mc)) (mP (((.int 3 p.m.ml) : SY) = (.int 3 p.m.ml)) (mP (((.int 4 p.m.bal) : SY) = (.int 4 p.m.bal)) (mP (((.int 4 p.m.acc) : SY) = (.int 4 p.m.acc)) (must (Bool.and (prB (((.int 1 p.m.vg) : SY) = (.int 1 p.m.vg))) (Bool.and (prB (((.int 3 p.m.vn) : SY) = (.int 3 p.m.vn))) (Bool.and (prB (((.imm p.m.hv 2 PrR p.m.vm encR) : SY) = (.imm p.m.hv 2 PrR p.m.vm encR))) (true)))) (must (Bool.and (prB (((.int 1 p.m.prn) : SY) = (.int 1 p.m.prn))) (Bool.and (prB (((.int 2 p.m.prl) : SY) = (.int 2 p.m.prl))) (true))) (mP (((.bool p.m.has) : SY) = (.bool p.m.has)) (mP (((.imm p.m.hm 2 PrR p.m.ms encR) : SY) = (.imm p.m.hm 2 PrR p.m.ms encR)) (mP (((.imm p.m.he 18 EnR p.m.es encE) : SY) = (.imm p.m.he 18 EnR p.m.es encE)) (mP (((.imm p.m.ht 18 EnR p.m.ts encE) : SY) = (.imm p.m.ht 18 EnR p.m.ts encE)) (exB fun p35 : A_procs => mP (([.sy (.imm p.m.hv 2 PrR p.m.vm encR)], .leaf, 0) = I_procs p35) (mP (pre_procs p35) (allB fun r30 : R_procs => mP (((.int 1 p.m.vg) : SY) = (.int 1 p.m.vg)) (mP (((.int 3 p.m.vn) : SY) = (.int 3 p.m.vn)) (mP (((.int 1 p.m.kind) : SY) = (.int 1 p.m.kind)) (mP (((.int 1 p.m.gr) : SY) = (.int 1 p.m.gr)) (mP (((.int 1 p.m.code) : SY) = (.int 1 p.m.code)) (mP (((.int 3 p.m.mn) : SY) = (.int 3 p.m.mn)) (mP (((.int 3 p.m.mf) : SY) = (.int 3 p.m.mf)) (mP (((.int 3 p.m.mc) : SY) = (.int 3 p.m.mc)) (mP (((.int 3 p.m.ml) : SY) = (.int 3 p.m.ml)) (mP (((.int 4 p.m.bal) : SY) = (.int 4 p.m.bal)) (mP (((.int 4 p.m.acc) : SY) = (.int 4 p.m.acc)) (must (Bool.and (prB (((.int 1 p.m.prn) : SY) = (.int 1 p.m.prn))) (Bool.and (prB (((.int 2 p.m.prl) : SY) = (.int 2 p.m.prl))) (true))) (mP (((.bool p.m.has) : SY) = (.bool p.m.has)) (mP (((.imm p.m.hm 2 PrR p.m.ms encR) : SY) = (.imm p.m.hm 2 PrR p.m.ms encR)) (mP (((.imm p.m.he 18 EnR p.m.es encE) : SY) = (.imm p.m.he 18 EnR p.m.es encE)) (mP (((.imm p.m.ht 18 EnR p.m.ts encE) : SY) = (.imm p.m.ht 18 EnR p.m.ts encE)) (mP (((.int 1 p.m.kind) : SY) = (.int 1 p.m.kind)) (mP (((.int 1 p.m.gr) : SY) = (.int 1 p.m.gr)) (mP (((.int 1 p.m.code) : SY) = (.int 1 p.m.code)) (mP (((.int 3 p.m.mn) : SY) = (.int 3 p.m.mn)) (mP (((.int 3 p.m.mf) : SY) = (.int 3 p.m.mf)) (mP (((.int 3 p.m.mc) : SY) = (.int 3 p.m.mc)) (mP (((.int 3 p.m.ml) : SY) = (.int 3 p.m.ml)) (mP (((.int 4 p.m.bal) : SY) = (.int 4 p.m.bal)) (mP (((.int 4 p.m.acc) : SY) = (.int 4 p.m.acc)) (mP (((.bool p.m.has) : SY) = (.bool p.m.has)) (mP (((.imm p.m.hm 2 PrR p.m.ms encR) : SY) = (.imm p.m.hm 2 PrR p.m.ms encR)) (mP (((.imm p.m.he 18 EnR p.m.es encE) : SY) = (.imm p.m.he 18 EnR p.m.es encE)) (mP (((.imm p.m.ht 18 EnR p.m.ts encE) : SY) = (.imm p.m.ht 18 EnR p.m.ts encE)) (exB fun p36 : A_procs => mP (([.sy (.imm p.m.hm 2 PrR p.m.ms encR)], .leaf, 0) = I_procs p36) (mP (pre_procs p36) (allB fun r31 : R_procs => mP (((.int 1 p.m.kind) : SY) = (.int 1 p.m.kind)) (mP (((.int 1 p.m.gr) : SY) = (.int 1 p.m.gr)) (mP (((.int 1 p.m.code) : SY) = (.int 1 p.m.code)) (mP (((.int 3 p.m.mn) : SY) = (.int 3 p.m.mn)) (mP (((.int 3 p.m.mf) : SY) = (.int 3 p.m.mf)) (mP (((.int 3 p.m.mc) : SY) = (.int 3 p.m.mc)) (mP (((.int 3 p.m.ml) : SY) = (.int 3 p.m.ml)) (mP (((.int 4 p.m.bal) : SY) = (.int 4 p.m.bal)) (mP (((.int 4 p.m.acc) : SY) = (.int 4 p.m.acc)) (mP (((.bool p.m.has) : SY) = (.bool p.m.has)) (mP (((.imm p.m.he 18 EnR p.m.es encE) : SY) = (.imm p.m.he 18 EnR p.m.es encE)) (mP (((.imm p.m.ht 18 EnR p.m.ts encE) : SY) = (.imm p.m.ht 18 EnR p.m.ts encE)) (exB fun p37 : A_owns => mP (([.sy (.imm p.m.he 18 EnR p.m.es encE)], .leaf, 0) = I_owns p37) (mP (pre_owns p37) (allB fun r32 : R_owns => mP (((.int 1 p.m.kind) : SY) = (.int 1 p.m.kind)) (mP (((.int 1 p.m.gr) : SY) = (.int 1 p.m.gr)) (mP (((.int 1 p.m.code) : SY) = (.int 1 p.m.code)) (mP (((.int 3 p.m.mn) : SY) = (.int 3 p.m.mn)) (mP (((.int 3 p.m.mf) : SY) = (.int 3 p.m.mf)) (mP (((.int 3 p.m.mc) : SY) = (.int 3 p.m.mc)) (mP (((.int 3 p.m.ml) : SY) = (.int 3 p.m.ml)) (mP (((.int 4 p.m.bal) : SY) = (.int 4 p.m.bal)) (mP (((.int 4 p.m.acc) : SY) = (.int 4 p.m.acc)) (mP (((.bool p.m.has) : SY) = (.bool p.m.has)) (mP (((.imm p.m.ht 18 EnR p.m.ts encE) : SY) = (.imm p.m.ht 18 EnR p.m.ts encE)) (exB fun p38 : A_owns => mP (([.sy (.imm p.m.ht 18 EnR p.m.ts encE)], .leaf, 0) = I_owns p38) (mP (pre_owns p38) (allB fun r33 : R_owns => mP (((.int 1 p.m.kind) : SY) = (.int 1 p.m.kind)) (mP (((.int 1 p.m.gr) : SY) = (.int 1 p.m.gr)) (mP (((.int 1 p.m.code) : SY) = (.int 1 p.m.code)) (mP (((.int 3 p.m.mn) : SY) = (.int 3 p.m.mn)) (mP (((.int 3 p.m.mf) : SY) = (.int 3 p.m.mf)) (mP (((.int 3 p.m.mc) : SY) = (.int 3 p.m.mc)) (mP (((.int 3 p.m.ml) : SY) = (.int 3 p.m.ml)) (mP (((.int 4 p.m.bal) : SY) = (.int 4 p.m.bal)) (mP (((.int 4 p.m.acc) : SY) = (.int 4 p.m.acc)) (mP (((.bool p.m.has) : SY) = (.bool p.m.has)) (exB fun p39 : A_knows => mP (([], .leaf, 0) = I_knows p39) z0)))))))))))))))))))))))))))))))))))))))))))))))))))))))))))))))))))))))))))))))))))))))))))))))))))))))))))))))))))))))))))))))))))))))))))))))))))))))))))))))))))))))))))))))))))))))))))))))))))))))))))))))))))))))))))))))))))))))))))))))))))))))))))))))))) true)) (exB fun p40 : A_knows => mP (([], .leaf, 0) = I_knows p40) z0)) true)) (exB fun p41 : A_knows => mP (([], .leaf, 0) = I_knows p41) z0)) (exB fun p42 : A_knows => mP (([], .leaf, 0) = I_knows p42) z0)) (exB fun p43 : A_knows => mP (([], .leaf, 0) = I_knows p43) z0)) (exB fun p44 : A_knows => mP (([], .leaf, 0) = I_knows p44) z0)))) (by kernel_rfl) ?_
 dsimp only [pre_seatNil] at hpre
 refine exB_mk (⟨p.m.hp, p.m.ps⟩ : A_li3) (mI rfl ?_)
 refine allB_mk (fun r1 => ?_)
 refine iI (fun hc1 => ?_) (fun hc1 => ?_)
 refine iI (fun hc2 => ?_) (fun hc2 => ?_)
 refine iI (fun hc3 => ?_) (fun hc3 => ?_)
 refine iI (fun hc4 => ?_) (fun hc4 => ?_)
 refine callR (⟨p.m.he, p.m.es⟩ : A_li5) rfl fun r2 hi5 => ?_
 dsimp only [po_li5] at hi5
 refine iI (fun hc6 => ?_) (fun hc6 => ?_)
 refine callR (⟨p.m.ht, p.m.ts⟩ : A_li5) rfl fun r3 hi7 => ?_
 dsimp only [po_li5] at hi7
 refine iI (fun hc8 => ?_) (fun hc8 => ?_)
 refine exB_mk ⟨⟩ ?_
 refine mI (rfl) ?_
 exact hK
 refine mI (by simp only [InR]; first | omega | (have y1 := ((by assumption : _ → okE p.m.es) (by first | assumption | exact Classical.not_not.1 (by assumption))); have y2 := ((by assumption : _ → okE p.m.ts) (by first | assumption | exact Classical.not_not.1 (by assumption))); have y3 := y1.1; have y4 := y2.1; omega)) ?_
 refine iI (fun hc9 => ?_) (fun hc9 => ?_)
 refine exB_mk ⟨⟩ ?_
 refine mI (rfl) ?_
 exact hK
 refine must_mk (by simp [prB]) ?_
 refine must_mk ?_ ?_
 refine mI (rfl) (mI (rfl) (mI (rfl) (mI (rfl) (mI (rfl) (mI (rfl) (mI (rfl) (mI (rfl) (mI (rfl) (mI (rfl) (mI (rfl) (mI (rfl) (mI (rfl) (mI (rfl) ?_)))))))))))))
 refine must_mk (by simp [prB]) ?_
 refine must_mk (by simp [prB]) ?_
 refine must_mk (by simp [prB]) ?_
 refine mI (rfl) (mI (rfl) (mI (rfl) (mI (rfl) ?_)))
 refine callP (⟨p.m.hp, p.m.ps⟩ : A_parts) rfl (by (try dsimp only [pre_parts]); omega) ?_
 refine allB_mk (fun r4 => ?_)
 refine mI (rfl) (mI (rfl) (mI (rfl) (mI (rfl) (mI (rfl) (mI (rfl) (mI (rfl) (mI (rfl) (mI (rfl) ?_))))))))
 refine must_mk (by simp [prB]) ?_
 refine must_mk (by simp [prB]) ?_
 refine must_mk (by simp [prB]) ?_
 refine mI (rfl) (mI (rfl) (mI (rfl) (mI (rfl) (mI (rfl) (mI (rfl) (mI (rfl) (mI (rfl) (mI (rfl) (mI (rfl) (mI (rfl) (mI (rfl) (mI (rfl) ?_))))))))))))
 refine must_mk (by simp [prB]) ?_
 refine must_mk (by simp [prB]) ?_
 refine mI (rfl) (mI (rfl) (mI (rfl) (mI (rfl) ?_)))
 refine callP (⟨p.m.hv, p.m.vm⟩ : A_procs) rfl (by (try dsimp only [pre_procs]); omega) ?_
 refine allB_mk (fun r5 => ?_)
 refine mI (rfl) (mI (rfl) (mI (rfl) (mI (rfl) (mI (rfl) (mI (rfl) (mI (rfl) (mI (rfl) (mI (rfl) (mI (rfl) (mI (rfl) ?_))))))))))
 refine must_mk (by simp [prB]) ?_
 refine mI (rfl) (mI (rfl) (mI (rfl) (mI (rfl) (mI (rfl) (mI (rfl) (mI (rfl) (mI (rfl) (mI (rfl) (mI (rfl) (mI (rfl) (mI (rfl) (mI (rfl) (mI (rfl) (mI (rfl) (mI (rfl) (mI (rfl) ?_))))))))))))))))
 refine callP (⟨p.m.hm, p.m.ms⟩ : A_procs) rfl (by (try dsimp only [pre_procs]); omega) ?_
 refine allB_mk (fun r6 => ?_)
 refine mI (rfl) (mI (rfl) (mI (rfl) (mI (rfl) (mI (rfl) (mI (rfl) (mI (rfl) (mI (rfl) (mI (rfl) (mI (rfl) (mI (rfl) (mI (rfl) ?_)))))))))))
 refine callP (⟨p.m.he, p.m.es⟩ : A_owns) rfl (by (try dsimp only [pre_owns]); exact ((by assumption : _ → okE p.m.es) (by first | assumption | exact Classical.not_not.1 (by assumption)))) ?_
 refine allB_mk (fun r7 => ?_)
 refine mI (rfl) (mI (rfl) (mI (rfl) (mI (rfl) (mI (rfl) (mI (rfl) (mI (rfl) (mI (rfl) (mI (rfl) (mI (rfl) (mI (rfl) ?_))))))))))
 refine callP (⟨p.m.ht, p.m.ts⟩ : A_owns) rfl (by (try dsimp only [pre_owns]); exact ((by assumption : _ → okE p.m.ts) (by first | assumption | exact Classical.not_not.1 (by assumption)))) ?_
 refine allB_mk (fun r8 => ?_)
 refine mI (rfl) (mI (rfl) (mI (rfl) (mI (rfl) (mI (rfl) (mI (rfl) (mI (rfl) (mI (rfl) (mI (rfl) (mI (rfl) ?_)))))))))
 refine must_mk (by simp [prB]) ?_
 refine must_mk ?_ ?_
 refine mI (rfl) (mI (rfl) (mI (rfl) (mI (rfl) (mI (rfl) (mI (rfl) (mI (rfl) (mI (rfl) (mI (rfl) (mI (rfl) (mI (rfl) (mI (rfl) (mI (rfl) (mI (rfl) ?_)))))))))))))
 refine must_mk (by simp [prB]) ?_
 refine must_mk (by simp [prB]) ?_
 refine must_mk (by simp [prB]) ?_
 refine mI (rfl) (mI (rfl) (mI (rfl) (mI (rfl) ?_)))
 refine callP (⟨p.m.hp, p.m.ps⟩ : A_parts) rfl (by (try dsimp only [pre_parts]); omega) ?_
 refine allB_mk (fun r9 => ?_)
 refine mI (rfl) (mI (rfl) (mI (rfl) (mI (rfl) (mI (rfl) (mI (rfl) (mI (rfl) (mI (rfl) (mI (rfl) ?_))))))))
 refine must_mk (by simp [prB]) ?_
 refine must_mk (by simp [prB]) ?_
 refine must_mk (by simp [prB]) ?_
 refine mI (rfl) (mI (rfl) (mI (rfl) (mI (rfl) (mI (rfl) (mI (rfl) (mI (rfl) (mI (rfl) (mI (rfl) (mI (rfl) (mI (rfl) (mI (rfl) (mI (rfl) ?_))))))))))))
 refine must_mk (by simp [prB]) ?_
 refine must_mk (by simp [prB]) ?_
 refine mI (rfl) (mI (rfl) (mI (rfl) (mI (rfl) ?_)))
 refine callP (⟨p.m.hv, p.m.vm⟩ : A_procs) rfl (by (try dsimp only [pre_procs]); omega) ?_
 refine allB_mk (fun r10 => ?_)
 refine mI (rfl) (mI (rfl) (mI (rfl) (mI (rfl) (mI (rfl) (mI (rfl) (mI (rfl) (mI (rfl) (mI (rfl) (mI (rfl) (mI (rfl) ?_))))))))))
 refine must_mk (by simp [prB]) ?_
 refine mI (rfl) (mI (rfl) (mI (rfl) (mI (rfl) (mI (rfl) (mI (rfl) (mI (rfl) (mI (rfl) (mI (rfl) (mI (rfl) (mI (rfl) (mI (rfl) (mI (rfl) (mI (rfl) (mI (rfl) (mI (rfl) (mI (rfl) ?_))))))))))))))))
 refine callP (⟨p.m.hm, p.m.ms⟩ : A_procs) rfl (by (try dsimp only [pre_procs]); omega) ?_
 refine allB_mk (fun r11 => ?_)
 refine mI (rfl) (mI (rfl) (mI (rfl) (mI (rfl) (mI (rfl) (mI (rfl) (mI (rfl) (mI (rfl) (mI (rfl) (mI (rfl) (mI (rfl) (mI (rfl) ?_)))))))))))
 refine callP (⟨p.m.he, p.m.es⟩ : A_owns) rfl (by (try dsimp only [pre_owns]); exact ((by assumption : _ → okE p.m.es) (by first | assumption | exact Classical.not_not.1 (by assumption)))) ?_
 refine allB_mk (fun r12 => ?_)
 refine mI (rfl) (mI (rfl) (mI (rfl) (mI (rfl) (mI (rfl) (mI (rfl) (mI (rfl) (mI (rfl) (mI (rfl) (mI (rfl) (mI (rfl) ?_))))))))))
 refine callP (⟨p.m.ht, p.m.ts⟩ : A_owns) rfl (by (try dsimp only [pre_owns]); exact ((by assumption : _ → okE p.m.ts) (by first | assumption | exact Classical.not_not.1 (by assumption)))) ?_
 refine allB_mk (fun r13 => ?_)
 refine mI (rfl) (mI (rfl) (mI (rfl) (mI (rfl) (mI (rfl) (mI (rfl) (mI (rfl) (mI (rfl) (mI (rfl) (mI (rfl) ?_)))))))))
 refine exB_mk ⟨⟩ ?_
 refine mI (rfl) ?_
 exact hK
 refine must_mk (by simp [prB]) ?_
 refine mI (rfl) (mI (rfl) (mI (rfl) (mI (rfl) (mI (rfl) (mI (rfl) (mI (rfl) (mI (rfl) (mI (rfl) (mI (rfl) (mI (rfl) (mI (rfl) (mI (rfl) (mI (rfl) ?_)))))))))))))
 refine must_mk (by simp [prB]) ?_
 refine must_mk (by simp [prB]) ?_
 refine must_mk (by simp [prB]) ?_
 refine mI (rfl) (mI (rfl) (mI (rfl) (mI (rfl) ?_)))
 refine callP (⟨p.m.hp, p.m.ps⟩ : A_parts) rfl (by (try dsimp only [pre_parts]); omega) ?_
 refine allB_mk (fun r14 => ?_)
 refine mI (rfl) (mI (rfl) (mI (rfl) (mI (rfl) (mI (rfl) (mI (rfl) (mI (rfl) (mI (rfl) (mI (rfl) ?_))))))))
 refine must_mk (by simp [prB]) ?_
 refine must_mk (by simp [prB]) ?_
 refine must_mk (by simp [prB]) ?_
 refine mI (rfl) (mI (rfl) (mI (rfl) (mI (rfl) (mI (rfl) (mI (rfl) (mI (rfl) (mI (rfl) (mI (rfl) (mI (rfl) (mI (rfl) (mI (rfl) (mI (rfl) ?_))))))))))))
 refine must_mk (by simp [prB]) ?_
 refine must_mk (by simp [prB]) ?_
 refine mI (rfl) (mI (rfl) (mI (rfl) (mI (rfl) ?_)))
 refine callP (⟨p.m.hv, p.m.vm⟩ : A_procs) rfl (by (try dsimp only [pre_procs]); omega) ?_
 refine allB_mk (fun r15 => ?_)
 refine mI (rfl) (mI (rfl) (mI (rfl) (mI (rfl) (mI (rfl) (mI (rfl) (mI (rfl) (mI (rfl) (mI (rfl) (mI (rfl) (mI (rfl) ?_))))))))))
 refine must_mk (by simp [prB]) ?_
 refine mI (rfl) (mI (rfl) (mI (rfl) (mI (rfl) (mI (rfl) (mI (rfl) (mI (rfl) (mI (rfl) (mI (rfl) (mI (rfl) (mI (rfl) (mI (rfl) (mI (rfl) (mI (rfl) (mI (rfl) (mI (rfl) (mI (rfl) ?_))))))))))))))))
 refine callP (⟨p.m.hm, p.m.ms⟩ : A_procs) rfl (by (try dsimp only [pre_procs]); omega) ?_
 refine allB_mk (fun r16 => ?_)
 refine mI (rfl) (mI (rfl) (mI (rfl) (mI (rfl) (mI (rfl) (mI (rfl) (mI (rfl) (mI (rfl) (mI (rfl) (mI (rfl) (mI (rfl) (mI (rfl) ?_)))))))))))
 refine callP (⟨p.m.he, p.m.es⟩ : A_owns) rfl (by (try dsimp only [pre_owns]); exact ((by assumption : _ → okE p.m.es) (by first | assumption | exact Classical.not_not.1 (by assumption)))) ?_
 refine allB_mk (fun r17 => ?_)
 refine mI (rfl) (mI (rfl) (mI (rfl) (mI (rfl) (mI (rfl) (mI (rfl) (mI (rfl) (mI (rfl) (mI (rfl) (mI (rfl) (mI (rfl) ?_))))))))))
 refine callP (⟨p.m.ht, p.m.ts⟩ : A_owns) rfl (by (try dsimp only [pre_owns]); exact ((by assumption : _ → okE p.m.ts) (by first | assumption | exact Classical.not_not.1 (by assumption)))) ?_
 refine allB_mk (fun r18 => ?_)
 refine mI (rfl) (mI (rfl) (mI (rfl) (mI (rfl) (mI (rfl) (mI (rfl) (mI (rfl) (mI (rfl) (mI (rfl) (mI (rfl) ?_)))))))))
 refine exB_mk ⟨⟩ ?_
 refine mI (rfl) ?_
 exact hK
 refine must_mk (by simp [prB]) ?_
 refine mI (rfl) (mI (rfl) (mI (rfl) (mI (rfl) (mI (rfl) (mI (rfl) (mI (rfl) (mI (rfl) (mI (rfl) (mI (rfl) (mI (rfl) (mI (rfl) (mI (rfl) (mI (rfl) ?_)))))))))))))
 refine must_mk (by simp [prB]) ?_
 refine must_mk (by simp [prB]) ?_
 refine must_mk (by simp [prB]) ?_
 refine mI (rfl) (mI (rfl) (mI (rfl) (mI (rfl) ?_)))
 refine callP (⟨p.m.hp, p.m.ps⟩ : A_parts) rfl (by (try dsimp only [pre_parts]); omega) ?_
 refine allB_mk (fun r19 => ?_)
 refine mI (rfl) (mI (rfl) (mI (rfl) (mI (rfl) (mI (rfl) (mI (rfl) (mI (rfl) (mI (rfl) (mI (rfl) ?_))))))))
 refine must_mk (by simp [prB]) ?_
 refine must_mk (by simp [prB]) ?_
 refine must_mk (by simp [prB]) ?_
 refine mI (rfl) (mI (rfl) (mI (rfl) (mI (rfl) (mI (rfl) (mI (rfl) (mI (rfl) (mI (rfl) (mI (rfl) (mI (rfl) (mI (rfl) (mI (rfl) (mI (rfl) ?_))))))))))))
 refine must_mk (by simp [prB]) ?_
 refine must_mk (by simp [prB]) ?_
 refine mI (rfl) (mI (rfl) (mI (rfl) (mI (rfl) ?_)))
 refine callP (⟨p.m.hv, p.m.vm⟩ : A_procs) rfl (by (try dsimp only [pre_procs]); omega) ?_
 refine allB_mk (fun r20 => ?_)
 refine mI (rfl) (mI (rfl) (mI (rfl) (mI (rfl) (mI (rfl) (mI (rfl) (mI (rfl) (mI (rfl) (mI (rfl) (mI (rfl) (mI (rfl) ?_))))))))))
 refine must_mk (by simp [prB]) ?_
 refine mI (rfl) (mI (rfl) (mI (rfl) (mI (rfl) (mI (rfl) (mI (rfl) (mI (rfl) (mI (rfl) (mI (rfl) (mI (rfl) (mI (rfl) (mI (rfl) (mI (rfl) (mI (rfl) (mI (rfl) (mI (rfl) (mI (rfl) ?_))))))))))))))))
 refine callP (⟨p.m.hm, p.m.ms⟩ : A_procs) rfl (by (try dsimp only [pre_procs]); omega) ?_
 refine allB_mk (fun r21 => ?_)
 refine mI (rfl) (mI (rfl) (mI (rfl) (mI (rfl) (mI (rfl) (mI (rfl) (mI (rfl) (mI (rfl) (mI (rfl) (mI (rfl) (mI (rfl) (mI (rfl) ?_)))))))))))
 refine callP (⟨p.m.he, p.m.es⟩ : A_owns) rfl (by (try dsimp only [pre_owns]); exact ((by assumption : _ → okE p.m.es) (by first | assumption | exact Classical.not_not.1 (by assumption)))) ?_
 refine allB_mk (fun r22 => ?_)
 refine mI (rfl) (mI (rfl) (mI (rfl) (mI (rfl) (mI (rfl) (mI (rfl) (mI (rfl) (mI (rfl) (mI (rfl) (mI (rfl) (mI (rfl) ?_))))))))))
 refine callP (⟨p.m.ht, p.m.ts⟩ : A_owns) rfl (by (try dsimp only [pre_owns]); exact ((by assumption : _ → okE p.m.ts) (by first | assumption | exact Classical.not_not.1 (by assumption)))) ?_
 refine allB_mk (fun r23 => ?_)
 refine mI (rfl) (mI (rfl) (mI (rfl) (mI (rfl) (mI (rfl) (mI (rfl) (mI (rfl) (mI (rfl) (mI (rfl) (mI (rfl) ?_)))))))))
 refine must_mk (by simp [prB]) ?_
 refine must_mk ?_ ?_
 refine mI (rfl) (mI (rfl) (mI (rfl) (mI (rfl) (mI (rfl) (mI (rfl) (mI (rfl) (mI (rfl) (mI (rfl) (mI (rfl) (mI (rfl) (mI (rfl) (mI (rfl) (mI (rfl) ?_)))))))))))))
 refine must_mk (by simp [prB]) ?_
 refine must_mk (by simp [prB]) ?_
 refine must_mk (by simp [prB]) ?_
 refine mI (rfl) (mI (rfl) (mI (rfl) (mI (rfl) ?_)))
 refine callP (⟨p.m.hp, p.m.ps⟩ : A_parts) rfl (by (try dsimp only [pre_parts]); omega) ?_
 refine allB_mk (fun r24 => ?_)
 refine mI (rfl) (mI (rfl) (mI (rfl) (mI (rfl) (mI (rfl) (mI (rfl) (mI (rfl) (mI (rfl) (mI (rfl) ?_))))))))
 refine must_mk (by simp [prB]) ?_
 refine must_mk (by simp [prB]) ?_
 refine must_mk (by simp [prB]) ?_
 refine mI (rfl) (mI (rfl) (mI (rfl) (mI (rfl) (mI (rfl) (mI (rfl) (mI (rfl) (mI (rfl) (mI (rfl) (mI (rfl) (mI (rfl) (mI (rfl) (mI (rfl) ?_))))))))))))
 refine must_mk (by simp [prB]) ?_
 refine must_mk (by simp [prB]) ?_
 refine mI (rfl) (mI (rfl) (mI (rfl) (mI (rfl) ?_)))
 refine callP (⟨p.m.hv, p.m.vm⟩ : A_procs) rfl (by (try dsimp only [pre_procs]); omega) ?_
 refine allB_mk (fun r25 => ?_)
 refine mI (rfl) (mI (rfl) (mI (rfl) (mI (rfl) (mI (rfl) (mI (rfl) (mI (rfl) (mI (rfl) (mI (rfl) (mI (rfl) (mI (rfl) ?_))))))))))
 refine must_mk (by simp [prB]) ?_
 refine mI (rfl) (mI (rfl) (mI (rfl) (mI (rfl) (mI (rfl) (mI (rfl) (mI (rfl) (mI (rfl) (mI (rfl) (mI (rfl) (mI (rfl) (mI (rfl) (mI (rfl) (mI (rfl) (mI (rfl) (mI (rfl) (mI (rfl) ?_))))))))))))))))
 refine callP (⟨p.m.hm, p.m.ms⟩ : A_procs) rfl (by (try dsimp only [pre_procs]); omega) ?_
 refine allB_mk (fun r26 => ?_)
 refine mI (rfl) (mI (rfl) (mI (rfl) (mI (rfl) (mI (rfl) (mI (rfl) (mI (rfl) (mI (rfl) (mI (rfl) (mI (rfl) (mI (rfl) (mI (rfl) ?_)))))))))))
 refine callP (⟨p.m.he, p.m.es⟩ : A_owns) rfl (by (try dsimp only [pre_owns]); exact ((by assumption : _ → okE p.m.es) (by first | assumption | exact Classical.not_not.1 (by assumption)))) ?_
 refine allB_mk (fun r27 => ?_)
 refine mI (rfl) (mI (rfl) (mI (rfl) (mI (rfl) (mI (rfl) (mI (rfl) (mI (rfl) (mI (rfl) (mI (rfl) (mI (rfl) (mI (rfl) ?_))))))))))
 refine callP (⟨p.m.ht, p.m.ts⟩ : A_owns) rfl (by (try dsimp only [pre_owns]); exact ((by assumption : _ → okE p.m.ts) (by first | assumption | exact Classical.not_not.1 (by assumption)))) ?_
 refine allB_mk (fun r28 => ?_)
 refine mI (rfl) (mI (rfl) (mI (rfl) (mI (rfl) (mI (rfl) (mI (rfl) (mI (rfl) (mI (rfl) (mI (rfl) (mI (rfl) ?_)))))))))
 refine exB_mk ⟨⟩ ?_
 refine mI (rfl) ?_
 exact hK
 refine must_mk (by simp [prB]) ?_
 refine mI (rfl) (mI (rfl) (mI (rfl) (mI (rfl) (mI (rfl) (mI (rfl) (mI (rfl) (mI (rfl) (mI (rfl) (mI (rfl) (mI (rfl) (mI (rfl) (mI (rfl) (mI (rfl) ?_)))))))))))))
 refine must_mk (by simp [prB]) ?_
 refine must_mk (by simp [prB]) ?_
 refine must_mk (by simp [prB]) ?_
 refine mI (rfl) (mI (rfl) (mI (rfl) (mI (rfl) ?_)))
 refine callP (⟨p.m.hp, p.m.ps⟩ : A_parts) rfl (by (try dsimp only [pre_parts]); omega) ?_
 refine allB_mk (fun r29 => ?_)
 refine mI (rfl) (mI (rfl) (mI (rfl) (mI (rfl) (mI (rfl) (mI (rfl) (mI (rfl) (mI (rfl) (mI (rfl) ?_))))))))
 refine must_mk (by simp [prB]) ?_
 refine must_mk (by simp [prB]) ?_
 refine must_mk (by simp [prB]) ?_
 refine mI (rfl) (mI (rfl) (mI (rfl) (mI (rfl) (mI (rfl) (mI (rfl) (mI (rfl) (mI (rfl) (mI (rfl) (mI (rfl) (mI (rfl) (mI (rfl) (mI (rfl) ?_))))))))))))
 refine must_mk (by simp [prB]) ?_
 refine must_mk (by simp [prB]) ?_
 refine mI (rfl) (mI (rfl) (mI (rfl) (mI (rfl) ?_)))
 refine callP (⟨p.m.hv, p.m.vm⟩ : A_procs) rfl (by (try dsimp only [pre_procs]); omega) ?_
 refine allB_mk (fun r30 => ?_)
 refine mI (rfl) (mI (rfl) (mI (rfl) (mI (rfl) (mI (rfl) (mI (rfl) (mI (rfl) (mI (rfl) (mI (rfl) (mI (rfl) (mI (rfl) ?_))))))))))
 refine must_mk (by simp [prB]) ?_
 refine mI (rfl) (mI (rfl) (mI (rfl) (mI (rfl) (mI (rfl) (mI (rfl) (mI (rfl) (mI (rfl) (mI (rfl) (mI (rfl) (mI (rfl) (mI (rfl) (mI (rfl) (mI (rfl) (mI (rfl) (mI (rfl) (mI (rfl) ?_))))))))))))))))
 refine callP (⟨p.m.hm, p.m.ms⟩ : A_procs) rfl (by (try dsimp only [pre_procs]); omega) ?_
 refine allB_mk (fun r31 => ?_)
 refine mI (rfl) (mI (rfl) (mI (rfl) (mI (rfl) (mI (rfl) (mI (rfl) (mI (rfl) (mI (rfl) (mI (rfl) (mI (rfl) (mI (rfl) (mI (rfl) ?_)))))))))))
 refine callP (⟨p.m.he, p.m.es⟩ : A_owns) rfl (by (try dsimp only [pre_owns]); exact ((by assumption : _ → okE p.m.es) (by first | assumption | exact Classical.not_not.1 (by assumption)))) ?_
 refine allB_mk (fun r32 => ?_)
 refine mI (rfl) (mI (rfl) (mI (rfl) (mI (rfl) (mI (rfl) (mI (rfl) (mI (rfl) (mI (rfl) (mI (rfl) (mI (rfl) (mI (rfl) ?_))))))))))
 refine callP (⟨p.m.ht, p.m.ts⟩ : A_owns) rfl (by (try dsimp only [pre_owns]); exact ((by assumption : _ → okE p.m.ts) (by first | assumption | exact Classical.not_not.1 (by assumption)))) ?_
 refine allB_mk (fun r33 => ?_)
 refine mI (rfl) (mI (rfl) (mI (rfl) (mI (rfl) (mI (rfl) (mI (rfl) (mI (rfl) (mI (rfl) (mI (rfl) (mI (rfl) ?_)))))))))
 refine exB_mk ⟨⟩ ?_
 refine mI (rfl) ?_
 exact hK
 refine exB_mk ⟨⟩ ?_
 refine mI (rfl) ?_
 exact hK
 refine exB_mk ⟨⟩ ?_
 refine mI (rfl) ?_
 exact hK
 refine exB_mk ⟨⟩ ?_
 refine mI (rfl) ?_
 exact hK
 refine exB_mk ⟨⟩ ?_
 refine mI (rfl) ?_
 exact hK
 refine exB_mk ⟨⟩ ?_
 refine mI (rfl) ?_
 exact hK
theorem na_seatNil : NatE Tryz.prog 8 0 (esOf I_seatNil (spP pre_seatNil out_seatNil)) := (natE_pl (f := 8) (k := 0) (cfT_ok nat_owns_ok) ft_seatNil_ok (by rfl) (by rfl) vf_seatNil)
end Go.Proofs.Tryz