/- The executor: regions. No condition: definitions and plain lemmas. -/
import Derived.Test.YtkahniffcehicaaYS
namespace Go.Sy
open Go Go.RowKit Go.Eng

/-! ### Are two values the same data? -/
noncomputable def tagA (v : AV) : Nat := AV.casesOn v 0 (fun _ _ => 0) (fun _ => 0) (fun _ => 0) (fun _ _ => 0) (fun _ _ _ _ => 0) (fun _ => 0) 1 2 3 4 5 (fun _ _ => 0) (fun _ _ => 0) (fun _ => 0) (fun _ => 0) (fun _ => 0) (fun _ => 0) (fun _ => 0)
noncomputable def eqC (c d : ACap) : Bool := ACap.casesOn c (fun n => ACap.casesOn d (fun m => Nat.beq n m) (fun _ => false)) (fun n => ACap.casesOn d (fun _ => false) (fun m => Nat.beq n m))
noncomputable def SYeq (s : SY) (v : AV) : Bool := asSy v fun s' => prB (s = s')
noncomputable def eq1 (u v : AV) : Bool := AV.casesOn u false (fun k a => asI v fun k2 b => Bool.and (Nat.beq k k2) (eqI a b)) (fun a => asB v fun b => Bool.rec (Bool.not b) b a) (fun l => asStr v fun m => eqL l m) (fun i o => asPtr v fun j p => Bool.and (Nat.beq i j) (Nat.beq o p))
  (fun i o n c => asSl v false fun j p m d => Bool.and (Nat.beq i j) (Bool.and (Nat.beq o p) (Bool.and (Nat.beq n m) (eqC c d)))) (fun i => asMap v false fun j => Nat.beq i j) (Nat.beq (tagA v) 1) (Nat.beq (tagA v) 2) (Nat.beq (tagA v) 3) (Nat.beq (tagA v) 4) (Nat.beq (tagA v) 5) (fun _ _ => false) (fun _ _ => false) (fun _ => false) (fun _ => false) (fun _ => false) (fun _ => false) (fun s => SYeq s v)
noncomputable def eqS (l m : List AV) : Bool := List.rec (motive := fun _ => List AV → Bool) (fun m => List.casesOn m true (fun _ _ => false)) (fun x _ ih m => List.casesOn m false (fun y r => Bool.and (eq1 x y) (ih r))) l m
noncomputable def eqA (u v : AV) : Bool := AV.casesOn u false (fun _ _ => eq1 u v) (fun _ => eq1 u v) (fun _ => eq1 u v) (fun _ _ => eq1 u v) (fun _ _ _ _ => eq1 u v) (fun _ => eq1 u v) (eq1 u v) (eq1 u v) (eq1 u v) (eq1 u v) (eq1 u v) (fun _ _ => false) (fun _ _ => false) (fun _ => false) (fun l => asAgg v fun m => eqS l m) (fun _ => false) (fun _ => false) (fun _ => eq1 u v)
theorem eqC_ok {c d : ACap} (h : eqC c d = true) : c = d := by
  cases c <;> cases d <;> first | (cases h; done) | (have := Nat.eq_of_beq_eq_true h; subst this; rfl)
theorem tag_ok {v : AV} {n : Nat} (h : Nat.beq (tagA v) n = true) : tagA v = n := Nat.eq_of_beq_eq_true h
theorem eq1_ok {u v : AV} (h : eq1 u v = true) : u = v := by
  cases u <;> first | (cases h; done) | skip
  case int k a =>
    obtain ⟨k2, b, rfl, h1⟩ := asI_ok h
    obtain ⟨h2, h3⟩ := band h1
    rw [eqI_eq, decide_eq_true_eq] at h3
    rw [Nat.eq_of_beq_eq_true h2, h3]
  case bool a =>
    obtain ⟨b, rfl, h1⟩ := asB_ok h
    cases a <;> cases b <;> first | rfl | cases h1
  case str l =>
    obtain ⟨m, rfl, h1⟩ := asStr_ok h
    rw [eqL_eq, decide_eq_true_eq] at h1
    rw [h1]
  case ptr i o =>
    obtain ⟨j, p, rfl, h1⟩ := asPtr_ok h
    obtain ⟨h2, h3⟩ := band h1
    rw [Nat.eq_of_beq_eq_true h2, Nat.eq_of_beq_eq_true h3]
  case sl i o n c =>
    rcases asSl_ok h with ⟨_, h1⟩ | ⟨j, p, m, d, rfl, h1⟩
    · cases h1
    · obtain ⟨h2, h3⟩ := band h1
      obtain ⟨h4, h5⟩ := band h3
      obtain ⟨h6, h7⟩ := band h5
      rw [Nat.eq_of_beq_eq_true h2, Nat.eq_of_beq_eq_true h4, Nat.eq_of_beq_eq_true h6, eqC_ok h7]
  case map i =>
    rcases asMap_ok h with ⟨_, h1⟩ | ⟨j, rfl, h1⟩
    · cases h1
    · rw [Nat.eq_of_beq_eq_true h1]
  case sy s =>
    obtain ⟨s', rfl, h1⟩ := asSy_ok (K := fun s' => prB (s = s')) h
    rw [prB_true.1 h1]
  all_goals
    have := tag_ok h
    cases v <;> first | rfl | cases this
theorem eqS_ok : ∀ {l m : List AV}, eqS l m = true → l = m
  | [], [], _ => rfl
  | [], _ :: _, h => by cases h
  | _ :: _, [], h => by cases h
  | x :: l, y :: m, h => by
    obtain ⟨h1, h2⟩ := band (a := eq1 x y) (b := eqS l m) h
    rw [eq1_ok h1, eqS_ok h2]
theorem eqA_ok {u v : AV} (h : eqA u v = true) : u = v := by
  cases u <;> first | (cases h; done) | exact eq1_ok (show eq1 _ v = true from h) | skip
  case agg l =>
    obtain ⟨m, rfl, h1⟩ := asAgg_ok h
    rw [eqS_ok h1]

/-! ### Steps -/
abbrev CallF := Nat → List AV → T → Nat → (AV → T → Nat → Bool) → Bool
inductive XSt
  | p (i : Nat) (d : Option Nat) (g : Option (Nat × Bool)) (x : XO) | r (i : Nat) (d : Option Nat) (g : Option (Nat × Bool)) (x : XO) | e (i : Nat) (d : Option Nat) (g : Option (Nat × Bool)) (x : XO)
  | c (i : Nat) (d : Option Nat) (g : Option (Nat × Bool)) (f : Nat) (xs : List XP) | a (i d : Nat) (g : Option (Nat × Bool)) (x : XO)
noncomputable def setX (d : Option Nat) (v : AV) (S : SL) (K : SL → Bool) : Bool := Option.casesOn d (K S) fun d => K (.cons d v S)
theorem setX_eq (d : Option Nat) (v : AV) (S : SL) (K : SL → Bool) : setX d v S K = K (putS d v S) := by cases d <;> rfl
/-- A slot's truth value; one that is a term parts the ways, and is literal from there on. -/
noncomputable def refB (t : Nat) (S : SL) (K : Bool → SL → Bool) : Bool := AV.casesOn (getS t S) false (fun _ _ => false) (fun b => K b S) (fun _ => false) (fun _ _ => false) (fun _ _ _ _ => false) (fun _ => false) false false false false false (fun _ _ => false) (fun _ _ => false) (fun _ => false) (fun _ => false) (fun _ => false) (fun _ => false)
  fun s => SY.casesOn s (fun _ _ => false) (fun p => ifB (prB p) (K true (.cons t (.bool true) S)) (K false (.cons t (.bool false) S))) (fun _ => false) (fun _ _ _ _ _ => false) (fun _ _ _ => false) (fun _ _ => false) (fun _ _ _ _ => false) (fun _ _ _ _ => false) (fun _ _ _ => false)
noncomputable def gd (w b : Bool) : Bool := Bool.rec (Bool.not w) w b
noncomputable def isU (v : AV) : Bool := AV.casesOn v false (fun _ _ => false) (fun _ => false) (fun _ => false) (fun _ _ => false) (fun _ _ _ _ => false) (fun _ => false) false false false false false (fun _ _ => false) (fun _ _ => false) (fun _ => false) (fun _ => false) (fun l => List.casesOn l true fun _ _ => false) (fun _ => false) (fun _ => false)
theorem isU_ok {v : AV} (h : isU v = true) : v = .tup [] := by
  cases v <;> first | (cases h; done) | skip
  case tup l => cases l <;> first | rfl | (cases h)
theorem den_undef (E : Env) (ρ : Ren) : den E ρ (.tup []) = some undef := by simp [den, denL, undef]
noncomputable def guardX (g : Option (Nat × Bool)) (S : SL) (Kn Ky : SL → Bool) : Bool := Option.casesOn g (Ky S) fun p => ifB (isU (getS p.1 S)) (Kn S) (refB p.1 S fun b S => ifB (gd p.2 b) (Ky S) (Kn S))
noncomputable def stepX (cf : CallF) (st : XSt) (S : SL) (M : T) (nx : Nat) (K : SL → T → Nat → Bool) : Bool := XSt.casesOn st
  (fun _ d g x => guardX g S (fun S => setX d (.tup []) S fun S => K S M nx) fun S => opP x S fun v => setX d v S fun S => K S M nx)
  (fun _ d g x => guardX g S (fun S => setX d (.tup []) S fun S => K S M nx) fun S => opR x S M fun v => setX d v S fun S => K S M nx)
  (fun _ d g x => guardX g S (fun S => setX d (.tup []) S fun S => K S M nx) fun S => opE x S M nx fun v M nx => setX d v S fun S => K S M nx)
  (fun _ d g f xs => guardX g S (fun S => setX d (.tup []) S fun S => K S M nx) fun S => evL S xs fun vs => cf f vs M nx fun v M nx => setX d v S fun S => K S M nx)
  (fun _ d g x => guardX g S (fun _ => false) fun S => opR x S M fun v => must (eqA v (getS d S)) (K S M nx))
noncomputable def regX (cf : CallF) (sts : List XSt) : SL → T → Nat → (SL → T → Nat → Bool) → Bool := List.rec (fun S M nx K => K S M nx) (fun st _ ih S M nx K => stepX cf st S M nx fun S M nx => ih S M nx K) sts

def kOfSt : XSt → Nat × Kd
  | .p i .. => (i, .P) | .r i .. => (i, .R) | .e i .. => (i, .E) | .c i .. => (i, .E) | .a i .. => (i, .A)
def chkG (ops : Array Oper) (N : Nat) (g : Option (Nat × Bool)) (o : Oper) : Bool := match g, o.guard with
  | none, none => true
  | some (t, b), some (k, c) => decide (b = c) && decide ((ops[k]?).bind (·.dst) = some t) && Nat.blt t N
  | _, _ => false
def chkD (N : Nat) (d : Option Nat) (o : Oper) : Bool := decide (o.dst = d) && (match d with | some t => Nat.blt t N | none => true)
def isCall (P : Program) (f : Nat) (xs : List XP) : Op → Bool
  | .call { callee := .value (.func f'), args := args, argTypes := _ } => Nat.beq f' f && opsOk xs args.toList && decide (okF P f = some (false, false))
  | _ => false
theorem isCall_ok {P : Program} {f : Nat} {xs : List XP} {op : Op} (h : isCall P f xs op = true) : ∃ args ta, op = .call { callee := .value (.func f), args := args, argTypes := ta } ∧ opsOk xs args.toList = true ∧ okF P f = some (false, false) := by
  unfold isCall at h
  split at h
  · rename_i f' args ta
    simp only [Bool.and_eq_true, decide_eq_true_eq] at h
    obtain ⟨⟨h1, h2⟩, h3⟩ := h
    have h1 := Nat.eq_of_beq_eq_true h1
    subst h1
    exact ⟨args, ta, rfl, h2, h3⟩
  · cases h
def chkSt (P : Program) (ops : Array Oper) (N : Nat) : XSt → Bool
  | .p i d g x | .r i d g x | .e i d g x => match ops[i]? with | some o => chkD N d o && chkG ops N g o && chkO P x o.op | none => false
  | .c i d g f xs => match ops[i]? with
    | some o => chkD N d o && chkG ops N g o && isCall P f xs o.op
    | none => false
  | .a i d g x => match ops[i]? with | some o => chkD N (some d) o && chkG ops N g o && chkO P x o.op | none => false

section
variable {P : Program} {E : Env} {ρ : Ren} {G : GS} {F : List Chunk} {M : T} {nx : Nat} {w : World} {N : Nat} {S : SL} {a : Act} {ops : Array Oper} {o : Oper}
theorem refB_ok (s : SR E ρ N S a) {t : Nat} {K : Bool → SL → Bool} (h : refB t S K = true) : ∃ b S', a.tmps.getD t undef = .bool b ∧ SR E ρ N S' a ∧ K b S' = true := by
  have put : ∀ b, a.tmps.getD t undef = .bool b → SR E ρ N (.cons t (.bool b) S) a := fun b hb => ⟨s.size, s.defs, fun u => by
    by_cases q : t = u
    · subst q
      rw [getS_self]
      exact .inr ⟨.bool b, rfl, hb⟩
    · rw [getS_ne _ _ q]
      exact s.at_ u⟩
  unfold refB at h
  rcases e : getS t S with _ | ⟨k, z⟩ | ⟨b⟩ | ⟨l⟩ | ⟨i, o⟩ | ⟨i, o, n, c⟩ | ⟨i⟩ | _ | _ | _ | _ | _ | ⟨tt, v⟩ | ⟨f, c⟩ | ⟨i⟩ | ⟨l⟩ | ⟨l⟩ | ⟨i⟩ | ⟨sy⟩ <;> rw [e] at h <;> first | (cases h; done) | skip
  · rcases s.at_ t with q | ⟨x, h1, h2⟩
    · rw [e] at q; cases q
    · rw [e] at h1
      cases h1
      exact ⟨b, S, h2, s, h⟩
  · cases sy <;> first | (cases h; done) | skip
    rename_i p
    rcases s.at_ t with q | ⟨x, h1, h2⟩
    · rw [e] at q; cases q
    · rw [e] at h1
      cases h1
      rcases ifB_ok h with ⟨q, g⟩ | ⟨q, g⟩
      · rw [q] at h2
        exact ⟨true, _, h2, put true h2, g⟩
      · rw [q] at h2
        exact ⟨false, _, h2, put false h2, g⟩
theorem guard_ok (s : SR E ρ N S a) {g : Option (Nat × Bool)} {Kn Ky : SL → Bool} (hc : chkG ops N g o = true) (h : guardX g S Kn Ky = true) :
    ∃ S', SR E ρ N S' a ∧ ((Region.wanted o (yielded ops a.tmps) = true ∧ Ky S' = true) ∨ (Region.wanted o (yielded ops a.tmps) = false ∧ Kn S' = true)) := by
  unfold chkG at hc
  split at hc
  · rename_i h1
    exact ⟨S, s, .inl ⟨by simp [Region.wanted, h1], h⟩⟩
  · rename_i t b k c h1
    simp only [Bool.and_eq_true, decide_eq_true_eq, Nat.blt_eq] at hc
    obtain ⟨⟨rfl, h2⟩, h3⟩ := hc
    have h : ifB (isU (getS t S)) (Kn S) (refB t S fun b' S => ifB (gd b b') (Ky S) (Kn S)) = true := h
    rcases ifB_ok h with ⟨hu, h⟩ | ⟨_, h⟩
    · have hu := isU_ok hu
      have hlt : t < a.tmps.size := by rw [s.size]; exact h3
      rcases s.at_ t with q | ⟨x, q1, q2⟩
      · rw [hu] at q; cases q
      · rw [hu, den_undef] at q1
        cases q1
        have e : a.tmps[t]? = some undef := by
          rw [Array.getElem?_eq_getElem hlt]
          simp only [Array.getD, hlt, dif_pos, Array.getInternal_eq_getElem] at q2
          rw [q2]
        have hy : yielded ops a.tmps k = none := by simp [yielded, h2, e, undef]
        have hw : Region.wanted o (yielded ops a.tmps) = false := by simp [Region.wanted, h1, hy]
        refine ⟨S, s, ?_⟩
        rw [hw]
        exact .inr ⟨rfl, h⟩
    obtain ⟨v, S', h7, s', h5⟩ := refB_ok (t := t) (K := fun b' S => ifB (gd b b') (Ky S) (Kn S)) s h
    have hlt : t < a.tmps.size := by rw [s.size]; exact h3
    have e : a.tmps[t]? = some (.bool v) := by
      rw [Array.getElem?_eq_getElem hlt]
      simp only [Array.getD, hlt, dif_pos, Array.getInternal_eq_getElem] at h7
      rw [h7]
    have hy : yielded ops a.tmps k = some v := by simp [yielded, h2, e]
    have hw : Region.wanted o (yielded ops a.tmps) = (v == b) := by simp [Region.wanted, h1, hy]
    have hvb : (v == b) = gd b v := by cases v <;> cases b <;> rfl
    refine ⟨S', s', ?_⟩
    rw [hw, hvb]
    rcases ifB_ok h5 with ⟨q, g⟩ | ⟨q, g⟩
    · exact .inl ⟨q, g⟩
    · exact .inr ⟨q, g⟩
  · cases hc
theorem RV_of {i : Nat} {z : Value} (hi : ops[i]? = some o) (hw : Region.wanted o (yielded ops a.tmps) = true) (hr : (execOp a.eval o).run P w = .ok (.value z) w) : RV P ops i z a w := by
  unfold RV op1 wpOp
  simp only [hi, hw, if_true]
  exact .inl (o_val hr ⟨by rw [dstOf_eq hi], rfl⟩)
theorem RV_un {i : Nat} (hi : ops[i]? = some o) (hw : Region.wanted o (yielded ops a.tmps) = false) : RV P ops i undef a w := by
  unfold RV op1 wpOp
  simp only [hi, hw]
  constructor
  · rw [dstOf_eq hi]
  · trivial
theorem op1_un {i : Nat} {K : Act → World → Prop} (hi : ops[i]? = some o) (hw : Region.wanted o (yielded ops a.tmps) = false) (k : K (a.put o.dst undef) w) : op1 P ops i K a w := by
  unfold op1 wpOp
  simp only [hi, hw]
  exact k
theorem op1_yes {i : Nat} {K : Act → World → Prop} (hi : ops[i]? = some o) (hw : Region.wanted o (yielded ops a.tmps) = true) (k : o.wp P a w K Q0) : op1 P ops i K a w := by
  unfold op1 wpOp
  simp only [hi, hw, if_true]
  exact .inl k
theorem chkD_ok {d : Option Nat} (h : chkD N d o = true) : o.dst = d ∧ ∀ t, d = some t → t < N := by
  unfold chkD at h
  simp only [Bool.and_eq_true, decide_eq_true_eq] at h
  refine ⟨h.1, fun t ht => ?_⟩
  subst ht
  simpa [Nat.blt_eq] using h.2
theorem call_run {dst : Option Tmp} {ty : TypeId} {pos : String} {af : Array Edge} {g : Option (Nat × Bool)} {f : Nat} {args : Array Operand} {ta : Array TypeId} (hf : okF P f = some (false, false)) :
    (execOp a.eval ⟨dst, .call { callee := .value (.func f), args := args, argTypes := ta }, ty, pos, af, g⟩).run P w = .ok (.enter f (args.toList.map a.eval).toArray) w := by
  simp [execOp, resolve, Act.eval, Deferred.ofValue, invoke]
  rw [run_callFunc hf]
  congr 2
  apply Array.ext'
  simp

/-- More is known: of atoms, of ids. -/
structure Ext (E : Env) (ρ : Ren) (E' : Env) (ρ' : Ren) : Prop where
  env : EEq ρ E E'
  le : ρ.Le ρ'
  one : EOk E'
theorem Ext.of (hE : EOk E) {ρ ρ' : Ren} (h : ρ.Le ρ') : Ext E ρ E ρ' := ⟨⟨fun _ _ _ => rfl, MLe.refl _⟩, h, hE⟩
theorem Ext.trans {E1 E2 E3 : Env} {r1 r2 r3 : Ren} (h : Ext E1 r1 E2 r2) (k : Ext E2 r2 E3 r3) : Ext E1 r1 E3 r3 :=
  ⟨⟨fun i e hi => (k.env.at_ i e (h.le i e hi)).trans (h.env.at_ i e hi), MLe.trans h.env.mem k.env.mem⟩, h.le.trans k.le, k.one⟩
theorem Ext.den {E' : Env} {ρ' : Ren} (x : Ext E ρ E' ρ') {v : AV} {z : Value} (h : den E ρ v = some z) : den E' ρ' v = some z := den_mono x.le v z (den_env x.env v z h)
theorem SR.ext {E' : Env} {ρ' : Ren} (s : SR E ρ N S a) (x : Ext E ρ E' ρ') : SR E' ρ' N S a := ⟨s.size, s.defs, fun t => (s.at_ t).imp id fun ⟨y, h1, h2⟩ => ⟨y, x.den h1, h2⟩⟩
/-- What the calls are worth. -/
def CallOk (P : Program) (cf : CallF) : Prop := ∀ (f : Nat) (vs : List AV) (M : T) (nx : Nat) (K : AV → T → Nat → Bool) (E : Env) (ρ : Ren) (G : GS) (F : List Chunk) (w : World) (xs : List Value) (R : Ending → World → Prop), EOk E →
  Sim E ρ G F M nx w → denL E ρ vs = some xs → cf f vs M nx K = true → (∀ v M' nx' E' ρ' w' z, K v M' nx' = true → Ext E ρ E' ρ' → Sim E' ρ' G F M' nx' w' → den E' ρ' v = some z → R (.returned z) w') → Calls P f xs.toArray w R

theorem regX_ok {cf : CallF} (hcf : CallOk P cf) {Q : Act → World → Prop} : ∀ {sts : List XSt} {S : SL} {M : T} {nx : Nat} {E : Env} {ρ : Ren} {a : Act} {w : World} {K : SL → T → Nat → Bool}, EOk E → (∀ st ∈ sts, chkSt P ops N st = true) → SR E ρ N S a → Sim E ρ G F M nx w → regX cf sts S M nx K = true →
    (∀ S' M' nx' E' ρ' a' w', K S' M' nx' = true → Ext E ρ E' ρ' → SR E' ρ' N S' a' → Sim E' ρ' G F M' nx' w' → Q a' w') → wpL P ops Q (sts.map kOfSt) a w
  | [], S, M, nx, E, ρ, a, w, K, hE, _, s, h, hk, hq => hq _ _ _ _ _ _ _ hk (Ext.of hE (Ren.Le.refl _)) s h
  | st :: sts, S, M, nx, E, ρ, a, w, K, hE, hc, s, h, hk, hq => by
    have hst := hc st (by simp)
    have hk' : stepX cf st S M nx (fun S M nx => regX cf sts S M nx K) = true := hk
    have nextE : ∀ {S' M' nx' E' ρ' a' w'}, regX cf sts S' M' nx' K = true → Ext E ρ E' ρ' → SR E' ρ' N S' a' → Sim E' ρ' G F M' nx' w' → wpL P ops Q (sts.map kOfSt) a' w' := fun r hl s' h' =>
      regX_ok hcf hl.one (fun st hst => hc st (by simp [hst])) s' h' r fun S' M' nx' E2 ρ' a' w' k1 k2 => hq S' M' nx' E2 ρ' a' w' k1 (hl.trans k2)
    have next : ∀ {S' M' nx' ρ' a' w'}, regX cf sts S' M' nx' K = true → ρ.Le ρ' → SR E ρ' N S' a' → Sim E ρ' G F M' nx' w' → wpL P ops Q (sts.map kOfSt) a' w' := fun r hl s' h' => nextE r (Ext.of hE hl) s' h'
    cases st with
    | p i d g x =>
      simp only [chkSt] at hst
      split at hst
      case h_2 => cases hst
      rename_i o hi
      simp only [Bool.and_eq_true] at hst
      obtain ⟨⟨c1, c2⟩, c3⟩ := hst
      obtain ⟨d1, d2⟩ := chkD_ok c1
      obtain ⟨S, s, hgd⟩ := guard_ok (Kn := fun S => setX d (.tup []) S fun S => regX cf sts S M nx K) (Ky := fun S => opP x S fun v => setX d v S fun S => regX cf sts S M nx K) s c2 hk'
      rcases hgd with ⟨q1, q2⟩ | ⟨q1, q2⟩
      · obtain ⟨v, z, g1, g2, g3⟩ := opP_ok hE s c3 q2
        rw [setX_eq] at g2
        refine ⟨z, fun w' => RV_of hi q1 (g3 w'), ?_⟩
        rw [dstOf_eq hi, d1]
        exact next g2 (Ren.Le.refl _) (s.put d2 (.inr g1)) h
      · rw [setX_eq] at q2
        refine ⟨undef, fun w' => RV_un hi q1, ?_⟩
        rw [dstOf_eq hi, d1]
        exact next q2 (Ren.Le.refl _) (s.put d2 (.inr (den_undef _ _))) h
    | r i d g x =>
      simp only [chkSt] at hst
      split at hst
      case h_2 => cases hst
      rename_i o hi
      simp only [Bool.and_eq_true] at hst
      obtain ⟨⟨c1, c2⟩, c3⟩ := hst
      obtain ⟨d1, d2⟩ := chkD_ok c1
      obtain ⟨S, s, hgd⟩ := guard_ok (Kn := fun S => setX d (.tup []) S fun S => regX cf sts S M nx K) (Ky := fun S => opR x S M fun v => setX d v S fun S => regX cf sts S M nx K) s c2 hk'
      rcases hgd with ⟨q1, q2⟩ | ⟨q1, q2⟩
      · obtain ⟨v, z, g1, g2, g3⟩ := opR_ok h s c3 q2
        rw [setX_eq] at g2
        refine ⟨z, RV_of hi q1 g3, ?_⟩
        rw [dstOf_eq hi, d1]
        exact next g2 (Ren.Le.refl _) (s.put d2 (.inr g1)) h
      · rw [setX_eq] at q2
        refine ⟨undef, RV_un hi q1, ?_⟩
        rw [dstOf_eq hi, d1]
        exact next q2 (Ren.Le.refl _) (s.put d2 (.inr (den_undef _ _))) h
    | e i d g x =>
      simp only [chkSt] at hst
      split at hst
      case h_2 => cases hst
      rename_i o hi
      simp only [Bool.and_eq_true] at hst
      obtain ⟨⟨c1, c2⟩, c3⟩ := hst
      obtain ⟨d1, d2⟩ := chkD_ok c1
      obtain ⟨S, s, hgd⟩ := guard_ok (Kn := fun S => setX d (.tup []) S fun S => regX cf sts S M nx K) (Ky := fun S => opE x S M nx fun v M nx => setX d v S fun S => regX cf sts S M nx K) s c2 hk'
      rcases hgd with ⟨q1, q2⟩ | ⟨q1, q2⟩
      · obtain ⟨v, M', nx', ρ', w', g1, g2, g3, g4⟩ := opE_ok hE h s c3 q2
        rw [setX_eq] at g3
        refine op1_yes hi q1 ?_
        rcases g4 with ⟨z, g5, g6⟩ | ⟨g5, g6⟩
        · refine o_val g6 ?_
          rw [d1]
          exact next g3 g1 ((s.mono g1).put d2 (.inr g5)) g2
        · refine o_skip g6 ?_
          rw [d1]
          exact next g3 g1 ((s.mono g1).put d2 (.inl g5)) g2
      · rw [setX_eq] at q2
        refine op1_un hi q1 ?_
        rw [d1]
        exact next q2 (Ren.Le.refl _) (s.put d2 (.inr (den_undef _ _))) h
    | c i d g f xs =>
      simp only [chkSt] at hst
      split at hst
      case h_2 => cases hst
      rename_i o hi
      simp only [Bool.and_eq_true] at hst
      obtain ⟨⟨c1, c2⟩, c3⟩ := hst
      obtain ⟨d1, d2⟩ := chkD_ok c1
      obtain ⟨dst, op, ty, pos, af, gg⟩ := o
      obtain ⟨args, ta, hop, c5, c6⟩ := isCall_ok c3
      dsimp only at hop
      subst hop
      obtain ⟨S, s, hgd⟩ := guard_ok (Kn := fun S => setX d (.tup []) S fun S => regX cf sts S M nx K) (Ky := fun S => evL S xs fun vs => cf f vs M nx fun v M nx => setX d v S fun S => regX cf sts S M nx K) s c2 hk'
      rcases hgd with ⟨q1, q2⟩ | ⟨q1, q2⟩
      · obtain ⟨vs, g1, g2, g3⟩ := evL_ok s c5 q2
        refine op1_yes hi q1 (o_enter (call_run c6) ?_)
        refine hcf _ vs M nx _ E ρ G F w _ _ hE h g1 g2 fun v M' nx' E' ρ' w' z k1 k2 k3 k4 => ⟨z, rfl, ?_⟩
        rw [setX_eq] at k1
        simp only at d1
        rw [d1]
        exact nextE k1 k2 ((s.ext k2).put d2 (.inr k4)) k3
      · rw [setX_eq] at q2
        refine op1_un hi q1 ?_
        simp only at d1
        rw [d1]
        exact next q2 (Ren.Le.refl _) (s.put d2 (.inr (den_undef _ _))) h
    | a i d g x =>
      simp only [chkSt] at hst
      split at hst
      case h_2 => cases hst
      rename_i o hi
      simp only [Bool.and_eq_true] at hst
      obtain ⟨⟨c1, c2⟩, c3⟩ := hst
      obtain ⟨d1, d2⟩ := chkD_ok c1
      obtain ⟨S, s, hgd⟩ := guard_ok (Kn := fun _ => false) (Ky := fun S => opR x S M fun v => must (eqA v (getS d S)) (regX cf sts S M nx K)) s c2 hk'
      rcases hgd with ⟨q1, q2⟩ | ⟨q1, q2⟩
      · obtain ⟨v, z, g1, g2, g3⟩ := opR_ok h s c3 q2
        obtain ⟨g4, g5⟩ := must_ok g2
        have g4 := eqA_ok g4
        refine ⟨⟨z, RV_of hi q1 g3, ?_⟩, next g5 (Ren.Le.refl _) s h⟩
        rw [dstOf_eq hi, d1]
        have hz : a.tmps.getD d undef = z := by
          rcases s.at_ d with e | ⟨x', e1, e2⟩
          · rw [g4, e] at g1; cases g1
          · rw [← g4, g1] at e1
            cases e1
            exact e2
        exact put_self hz
      · cases q2
where
  put_self {a : Act} {d : Nat} {z : Value} (h : a.tmps.getD d undef = z) : a.put (some d) z = a := by
    simp only [Act.put]
    have : a.tmps.setIfInBounds d z = a.tmps := by
      apply Array.ext_getElem?
      intro j
      by_cases q : d = j
      · subst q
        rcases Nat.lt_or_ge d a.tmps.size with hl | hl
        · rw [Array.getElem?_setIfInBounds_self_of_lt hl, Array.getElem?_eq_getElem hl]
          simp only [Array.getD, hl, dif_pos, Array.getInternal_eq_getElem] at h
          rw [h]
        · rw [Array.getElem?_eq_none (by simpa using hl), Array.getElem?_eq_none hl]
      · rw [Array.getElem?_setIfInBounds_ne q]
    rw [this]

/-! ### Trees of plans -/
inductive XTr | leaf (sts : List XSt) | split (x y : Nat) (s t : XTr)
def toTr : XTr → Tr
  | .leaf sts => .leaf (sts.map kOfSt)
  | .split x y s t => .split x y (toTr s) (toTr t)
def chkTr (P : Program) (ops : Array Oper) (N : Nat) : XTr → Bool
  | .leaf sts => sts.all (chkSt P ops N)
  | .split _ _ s t => chkTr P ops N s && chkTr P ops N t
noncomputable def treeX (cf : CallF) (tr : XTr) (S : SL) (M : T) (nx : Nat) (K : SL → T → Nat → Bool) : Bool := XTr.rec (fun sts => regX cf sts S M nx K) (fun _ _ _ _ p q => must p q) tr
theorem treeX_ok (hE : EOk E) {cf : CallF} (hcf : CallOk P cf) {Q : Act → World → Prop} {K : SL → T → Nat → Bool} (s : SR E ρ N S a) (h : Sim E ρ G F M nx w)
    (hq : ∀ S' M' nx' E' ρ' a' w', K S' M' nx' = true → Ext E ρ E' ρ' → SR E' ρ' N S' a' → Sim E' ρ' G F M' nx' w' → Q a' w') : ∀ {tr : XTr}, chkTr P ops N tr = true → treeX cf tr S M nx K = true → wpTr P ops Q a w (toTr tr)
  | .leaf sts, hc, hk => regX_ok hcf hE (fun st hst => List.all_eq_true.1 hc st hst) s h hk hq
  | .split x y t u, hc, hk => by
    simp only [chkTr, Bool.and_eq_true] at hc
    obtain ⟨k1, k2⟩ := must_ok (b := treeX cf t S M nx K) (x := treeX cf u S M nx K) hk
    exact ⟨treeX_ok hE hcf s h hq hc.1 k1, treeX_ok hE hcf s h hq hc.2 k2⟩
end
end Go.Sy
