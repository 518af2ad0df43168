/- Definitions and lemmas of the proof, without a condition of their own. -/
import Derived.Test.YtecafdjefholfaaGreatDoorM1
import Derived.LoopN
import Derived.Laws.ResultCell
import Derived.Lib.ItoaMem
import Derived.Lib.Join
import Derived.Shelf.Strings.Builder1
import Derived.Shelf.Strings.Builder2
import Derived.Shelf.Strings.OnBuilder
import Derived.Shelf.Small.Bits
import Derived.Shelf.Strconv.Itoa0
import Derived.Shelf.Strconv.Itoa1
import Derived.Shelf.LaysM
import Derived.Shelf.Strconv.Itoa2
import Derived.Shelf.Strconv.Itoa3
import Derived.Shelf.Strconv.Itoa4
import Derived.Test.YtecafdjefholfaaGreatDoorProg
import Derived.Test.YtecafdjefholfaaGreatDoorChecked
import Derived.KernelRfl
namespace Go.Sy
open Go Go.RowKit Go.Eng
noncomputable def tagA (v : AV) : Nat := AV.casesOn v 0 (fun _ _ => 0) (fun _ => 0) (fun _ => 0) (fun _ _ => 0) (fun _ _ _ _ => 0) (fun _ => 0) 1 2 3 4 5 (fun _ _ => 0) (fun _ _ => 0) (fun _ => 0) (fun _ => 0) (fun _ => 0) (fun _ => 0) (fun _ => 0)
noncomputable def eqC (c d : ACap) : Bool := ACap.casesOn c (fun n => ACap.casesOn d (fun m => Nat.beq n m) (fun _ => false)) (fun n => ACap.casesOn d (fun _ => false) (fun m => Nat.beq n m))
noncomputable def SYeq (s : SY) (v : AV) : Bool := asSy v fun s' => prB (s = s')
noncomputable def eq1 (u v : AV) : Bool := AV.casesOn u false (fun k a => asI v fun k2 b => Bool.and (Nat.beq k k2) (eqI a b)) (fun a => asB v fun b => Bool.rec (Bool.not b) b a) (fun l => asStr v fun m => eqL l m) (fun i o => asPtr v fun j p => Bool.and (Nat.beq i j) (Nat.beq o p))
  (fun i o n c => asSl v false fun j p m d => Bool.and (Nat.beq i j) (Bool.and (Nat.beq o p) (Bool.and (Nat.beq n m) (eqC c d)))) (fun i => asMap v false fun j => Nat.beq i j) (Nat.beq (tagA v) 1) (Nat.beq (tagA v) 2) (Nat.beq (tagA v) 3) (Nat.beq (tagA v) 4) (Nat.beq (tagA v) 5) (fun _ _ => false) (fun _ _ => false) (fun _ => false) (fun _ => false) (fun _ => false) (fun _ => false) (fun s => SYeq s v)
noncomputable def eqS (l m : List AV) : Bool := List.rec (motive := fun _ => List AV → Bool) (fun m => List.casesOn m true (fun _ _ => false)) (fun x _ ih m => List.casesOn m false (fun y r => Bool.and (eq1 x y) (ih r))) l m
noncomputable def asFnV (v : AV) (K : Nat → List AV → Bool) : Bool := AV.casesOn v false (fun _ _ => false) (fun _ => false) (fun _ => false) (fun _ _ => false) (fun _ _ _ _ => false) (fun _ => false) false false false false false (fun _ _ => false) (fun g c => K g c) (fun _ => false) (fun _ => false) (fun _ => false) (fun _ => false) (fun _ => false)
theorem asFnV_ok {v : AV} {K : Nat → List AV → Bool} (h : asFnV v K = true) : ∃ g c, v = .fn g c ∧ K g c = true := by
  cases v <;> first | (cases h; done) | exact ⟨_, _, rfl, h⟩
noncomputable def eqA (u v : AV) : Bool := AV.casesOn u false (fun _ _ => eq1 u v) (fun _ => eq1 u v) (fun _ => eq1 u v) (fun _ _ => eq1 u v) (fun _ _ _ _ => eq1 u v) (fun _ => eq1 u v) (eq1 u v) (eq1 u v) (eq1 u v) (eq1 u v) (eq1 u v) (fun _ _ => false) (fun f c => asFnV v fun g d => Bool.and (Nat.beq f g) (eqS c d)) (fun _ => false) (fun l => asAgg v fun m => eqS l m) (fun _ => false) (fun _ => false) (fun _ => eq1 u v)
theorem eqC_ok {c d : ACap} (h : eqC c d = true) : c = d := by
  cases c <;> cases d <;> first | (cases h; done) | (have := Nat.eq_of_beq_eq_true h; subst this; rfl)
theorem tag_ok {v : AV} {n : Nat} (h : Nat.beq (tagA v) n = true) : tagA v = n := Nat.eq_of_beq_eq_true h
theorem eq1_ok {u v : AV} (h : eq1 u v = true) : u = v := by
  cases u <;> first | (cases h; done) | skip
  case int k a =>
    obtain ⟨k2, b, rfl, h1⟩ := asI_ok h
    obtain ⟨h2, h3⟩ := band h1
    rw [eqI_eq, decide_eq_true_eq] at h3
    rw [Nat.eq_of_beq_eq_true h2, h3]
  case bool a =>
    obtain ⟨b, rfl, h1⟩ := asB_ok h
    cases a <;> cases b <;> first | rfl | cases h1
  case str l =>
    obtain ⟨m, rfl, h1⟩ := asStr_ok h
    rw [eqL_eq, decide_eq_true_eq] at h1
    rw [h1]
  case ptr i o =>
    obtain ⟨j, p, rfl, h1⟩ := asPtr_ok h
    obtain ⟨h2, h3⟩ := band h1
    rw [Nat.eq_of_beq_eq_true h2, Nat.eq_of_beq_eq_true h3]
  case sl i o n c =>
    rcases asSl_ok h with ⟨_, h1⟩ | ⟨j, p, m, d, rfl, h1⟩
    · cases h1
    · obtain ⟨h2, h3⟩ := band h1
      obtain ⟨h4, h5⟩ := band h3
      obtain ⟨h6, h7⟩ := band h5
      rw [Nat.eq_of_beq_eq_true h2, Nat.eq_of_beq_eq_true h4, Nat.eq_of_beq_eq_true h6, eqC_ok h7]
  case map i =>
    rcases asMap_ok h with ⟨_, h1⟩ | ⟨j, rfl, h1⟩
    · cases h1
    · rw [Nat.eq_of_beq_eq_true h1]
  case sy s =>
    obtain ⟨s', rfl, h1⟩ := asSy_ok (K := fun s' => prB (s = s')) h
    rw [prB_true.1 h1]
  all_goals
    have := tag_ok h
    cases v <;> first | rfl | cases this
theorem eqS_ok : ∀ {l m : List AV}, eqS l m = true → l = m
  | [], [], _ => rfl
  | [], _ :: _, h => by cases h
  | _ :: _, [], h => by cases h
  | x :: l, y :: m, h => by
    obtain ⟨h1, h2⟩ := band (a := eq1 x y) (b := eqS l m) h
    rw [eq1_ok h1, eqS_ok h2]
theorem eqA_ok {u v : AV} (h : eqA u v = true) : u = v := by
  cases u <;> first | (cases h; done) | exact eq1_ok (show eq1 _ v = true from h) | skip
  case agg l =>
    obtain ⟨m, rfl, h1⟩ := asAgg_ok h
    rw [eqS_ok h1]
  case fn f c =>
    obtain ⟨g, d, rfl, h1⟩ := asFnV_ok h
    obtain ⟨h2, h3⟩ := band h1
    rw [Nat.eq_of_beq_eq_true h2, eqS_ok h3]
abbrev CallF := Nat → List AV → T → Nat → (AV → T → Nat → Bool) → Bool
inductive XSt
  | p (i : Nat) (d : Option Nat) (g : Option (Nat × Bool)) (x : XO) | r (i : Nat) (d : Option Nat) (g : Option (Nat × Bool)) (x : XO) | e (i : Nat) (d : Option Nat) (g : Option (Nat × Bool)) (x : XO)
  | c (i : Nat) (d : Option Nat) (g : Option (Nat × Bool)) (f : Nat) (xs : List XP) | a (i d : Nat) (g : Option (Nat × Bool)) (x : XO) | k (i : Nat) (d : Option Nat) (g : Option (Nat × Bool)) (t f : Nat) (xs : List XP)
noncomputable def setX (d : Option Nat) (v : AV) (S : SL) (K : SL → Bool) : Bool := Option.casesOn d (K S) fun d => K (.cons d v S)
theorem setX_eq (d : Option Nat) (v : AV) (S : SL) (K : SL → Bool) : setX d v S K = K (putS d v S) := by cases d <;> rfl
noncomputable def refB (t : Nat) (S : SL) (K : Bool → SL → Bool) : Bool := AV.casesOn (getS t S) false (fun _ _ => false) (fun b => K b S) (fun _ => false) (fun _ _ => false) (fun _ _ _ _ => false) (fun _ => false) false false false false false (fun _ _ => false) (fun _ _ => false) (fun _ => false) (fun _ => false) (fun _ => false) (fun _ => false)
  fun s => SY.casesOn s (fun _ _ => false) (fun p => ifB (prB p) (K true (.cons t (.bool true) S)) (K false (.cons t (.bool false) S))) (fun _ => false) (fun _ _ _ _ _ => false) (fun _ _ _ => false) (fun _ _ => false) (fun _ _ _ _ => false) (fun _ _ _ _ => false) (fun _ _ _ => false) (fun _ => false)
noncomputable def gd (w b : Bool) : Bool := Bool.rec (Bool.not w) w b
noncomputable def isU (v : AV) : Bool := AV.casesOn v false (fun _ _ => false) (fun _ => false) (fun _ => false) (fun _ _ => false) (fun _ _ _ _ => false) (fun _ => false) false false false false false (fun _ _ => false) (fun _ _ => false) (fun _ => false) (fun _ => false) (fun l => List.casesOn l true fun _ _ => false) (fun _ => false) (fun _ => false)
theorem isU_ok {v : AV} (h : isU v = true) : v = .tup [] := by
  cases v <;> first | (cases h; done) | skip
  case tup l => cases l <;> first | rfl | (cases h)
theorem den_undef (E : Env) (ρ : Ren) : den E ρ (.tup []) = some undef := by simp [den, denL, undef]
noncomputable def guardX (g : Option (Nat × Bool)) (S : SL) (Kn Ky : SL → Bool) : Bool := Option.casesOn g (Ky S) fun p => ifB (isU (getS p.1 S)) (Kn S) (refB p.1 S fun b S => ifB (gd p.2 b) (Ky S) (Kn S))
noncomputable def isFn (f : Nat) (v : AV) : Bool := AV.casesOn v false (fun _ _ => false) (fun _ => false) (fun _ => false) (fun _ _ => false) (fun _ _ _ _ => false) (fun _ => false) false false false false false (fun _ _ => false) (fun g c => List.casesOn c (Nat.beq g f) (fun _ _ => false)) (fun _ => false) (fun _ => false) (fun _ => false) (fun _ => false) (fun _ => false)
theorem isFn_ok {f : Nat} {v : AV} (h : isFn f v = true) : v = .fn f [] := by
  cases v <;> first | (cases h; done) | skip
  case fn g c =>
    cases c with
    | nil => rw [Nat.eq_of_beq_eq_true (show Nat.beq g f = true from h)]
    | cons _ _ => cases h
noncomputable def stepX (cf : CallF) (st : XSt) (S : SL) (M : T) (nx : Nat) (K : SL → T → Nat → Bool) : Bool := XSt.casesOn st
  (fun _ d g x => guardX g S (fun S => setX d (.tup []) S fun S => K S M nx) fun S => opP x S fun v => setX d v S fun S => K S M nx)
  (fun _ d g x => guardX g S (fun S => setX d (.tup []) S fun S => K S M nx) fun S => opR x S M fun v => setX d v S fun S => K S M nx)
  (fun _ d g x => guardX g S (fun S => setX d (.tup []) S fun S => K S M nx) fun S => opE x S M nx fun v M nx => setX d v S fun S => K S M nx)
  (fun _ d g f xs => guardX g S (fun S => setX d (.tup []) S fun S => K S M nx) fun S => evL S xs fun vs => cf f vs M nx fun v M nx => setX d v S fun S => K S M nx)
  (fun _ d g x => guardX g S (fun S => must (isU (getS d S)) (K S M nx)) fun S => opR x S M fun v => must (eqA v (getS d S)) (K S M nx))
  (fun _ d g t f xs => guardX g S (fun S => setX d (.tup []) S fun S => K S M nx) fun S => must (isFn f (getS t S)) (evL S xs fun vs => cf f vs M nx fun v M nx => setX d v S fun S => K S M nx))
noncomputable def regX (cf : CallF) (sts : List XSt) : SL → T → Nat → (SL → T → Nat → Bool) → Bool := List.rec (fun S M nx K => K S M nx) (fun st _ ih S M nx K => stepX cf st S M nx fun S M nx => ih S M nx K) sts
def kOfSt : XSt → Nat × Kd
  | .p i .. => (i, .P) | .r i .. => (i, .R) | .e i .. => (i, .E) | .c i .. => (i, .E) | .a i .. => (i, .A) | .k i .. => (i, .E)
def chkG (ops : Array Oper) (N : Nat) (g : Option (Nat × Bool)) (o : Oper) : Bool := match g, o.guard with
  | none, none => true
  | some (t, b), some (k, c) => decide (b = c) && decide ((ops[k]?).bind (·.dst) = some t) && Nat.blt t N
  | _, _ => false
def chkD (N : Nat) (d : Option Nat) (o : Oper) : Bool := decide (o.dst = d) && (match d with | some t => Nat.blt t N | none => true)
def isCall (P : Program) (f : Nat) (xs : List XP) : Op → Bool
  | .call { callee := .value (.func f'), args := args, argTypes := _ } => Nat.beq f' f && opsOk xs args.toList && decide (okF P f = some (false, false))
  | _ => false
def isCallT (P : Program) (t f : Nat) (xs : List XP) : Op → Bool
  | .call { callee := .value (.tmp t'), args := args, argTypes := _ } => Nat.beq t' t && opsOk xs args.toList && decide (okF P f = some (false, false))
  | _ => false
theorem isCallT_ok {P : Program} {t f : Nat} {xs : List XP} {op : Op} (h : isCallT P t f xs op = true) : ∃ args ta, op = .call { callee := .value (.tmp t), args := args, argTypes := ta } ∧ opsOk xs args.toList = true ∧ okF P f = some (false, false) := by
  unfold isCallT at h
  split at h
  · rename_i f' args ta
    simp only [Bool.and_eq_true, decide_eq_true_eq] at h
    obtain ⟨⟨h1, h2⟩, h3⟩ := h
    have h1 := Nat.eq_of_beq_eq_true h1
    subst h1
    exact ⟨args, ta, rfl, h2, h3⟩
  · cases h
theorem isCall_ok {P : Program} {f : Nat} {xs : List XP} {op : Op} (h : isCall P f xs op = true) : ∃ args ta, op = .call { callee := .value (.func f), args := args, argTypes := ta } ∧ opsOk xs args.toList = true ∧ okF P f = some (false, false) := by
  unfold isCall at h
  split at h
  · rename_i f' args ta
    simp only [Bool.and_eq_true, decide_eq_true_eq] at h
    obtain ⟨⟨h1, h2⟩, h3⟩ := h
    have h1 := Nat.eq_of_beq_eq_true h1
    subst h1
    exact ⟨args, ta, rfl, h2, h3⟩
  · cases h
def chkSt (P : Program) (ops : Array Oper) (N : Nat) : XSt → Bool
  | .p i d g x | .r i d g x | .e i d g x => match ops[i]? with | some o => chkD N d o && chkG ops N g o && chkO P x o.op | none => false
  | .c i d g f xs => match ops[i]? with
    | some o => chkD N d o && chkG ops N g o && isCall P f xs o.op
    | none => false
  | .a i d g x => match ops[i]? with | some o => chkD N (some d) o && chkG ops N g o && chkO P x o.op | none => false
  | .k i d g t f xs => match ops[i]? with
    | some o => chkD N d o && chkG ops N g o && isCallT P t f xs o.op
    | none => false
section
variable {P : Program} {E : Env} {ρ : Ren} {G : GS} {F : List Chunk} {M : T} {nx : Nat} {w : World} {N : Nat} {S : SL} {a : Act} {ops : Array Oper} {o : Oper}
theorem refB_ok (s : SR E ρ N S a) {t : Nat} {K : Bool → SL → Bool} (h : refB t S K = true) : ∃ b S', a.tmps.getD t undef = .bool b ∧ SR E ρ N S' a ∧ K b S' = true := by
  have put : ∀ b, a.tmps.getD t undef = .bool b → SR E ρ N (.cons t (.bool b) S) a := fun b hb => ⟨s.size, s.defs, fun u => by
    by_cases q : t = u
    · subst q
      rw [getS_self]
      exact .inr ⟨.bool b, rfl, hb⟩
    · rw [getS_ne _ _ q]
      exact s.at_ u⟩
  unfold refB at h
  rcases e : getS t S with _ | ⟨k, z⟩ | ⟨b⟩ | ⟨l⟩ | ⟨i, o⟩ | ⟨i, o, n, c⟩ | ⟨i⟩ | _ | _ | _ | _ | _ | ⟨tt, v⟩ | ⟨f, c⟩ | ⟨i⟩ | ⟨l⟩ | ⟨l⟩ | ⟨i⟩ | ⟨sy⟩ <;> rw [e] at h <;> first | (cases h; done) | skip
  · rcases s.at_ t with q | ⟨x, h1, h2⟩
    · rw [e] at q; cases q
    · rw [e] at h1
      cases h1
      exact ⟨b, S, h2, s, h⟩
  · cases sy <;> first | (cases h; done) | skip
    rename_i p
    rcases s.at_ t with q | ⟨x, h1, h2⟩
    · rw [e] at q; cases q
    · rw [e] at h1
      cases h1
      rcases ifB_ok h with ⟨q, g⟩ | ⟨q, g⟩
      · rw [q] at h2
        exact ⟨true, _, h2, put true h2, g⟩
      · rw [q] at h2
        exact ⟨false, _, h2, put false h2, g⟩
theorem guard_ok (s : SR E ρ N S a) {g : Option (Nat × Bool)} {Kn Ky : SL → Bool} (hc : chkG ops N g o = true) (h : guardX g S Kn Ky = true) :
    ∃ S', SR E ρ N S' a ∧ ((Region.wanted o (yielded ops a.tmps) = true ∧ Ky S' = true) ∨ (Region.wanted o (yielded ops a.tmps) = false ∧ Kn S' = true)) := by
  unfold chkG at hc
  split at hc
  · rename_i h1
    exact ⟨S, s, .inl ⟨by simp [Region.wanted, h1], h⟩⟩
  · rename_i t b k c h1
    simp only [Bool.and_eq_true, decide_eq_true_eq, Nat.blt_eq] at hc
    obtain ⟨⟨rfl, h2⟩, h3⟩ := hc
    have h : ifB (isU (getS t S)) (Kn S) (refB t S fun b' S => ifB (gd b b') (Ky S) (Kn S)) = true := h
    rcases ifB_ok h with ⟨hu, h⟩ | ⟨_, h⟩
    · have hu := isU_ok hu
      have hlt : t < a.tmps.size := by rw [s.size]; exact h3
      rcases s.at_ t with q | ⟨x, q1, q2⟩
      · rw [hu] at q; cases q
      · rw [hu, den_undef] at q1
        cases q1
        have e : a.tmps[t]? = some undef := by
          rw [Array.getElem?_eq_getElem hlt]
          simp only [Array.getD, hlt, dif_pos, Array.getInternal_eq_getElem] at q2
          rw [q2]
        have hy : yielded ops a.tmps k = none := by simp [yielded, h2, e, undef]
        have hw : Region.wanted o (yielded ops a.tmps) = false := by simp [Region.wanted, h1, hy]
        refine ⟨S, s, ?_⟩
        rw [hw]
        exact .inr ⟨rfl, h⟩
    obtain ⟨v, S', h7, s', h5⟩ := refB_ok (t := t) (K := fun b' S => ifB (gd b b') (Ky S) (Kn S)) s h
    have hlt : t < a.tmps.size := by rw [s.size]; exact h3
    have e : a.tmps[t]? = some (.bool v) := by
      rw [Array.getElem?_eq_getElem hlt]
      simp only [Array.getD, hlt, dif_pos, Array.getInternal_eq_getElem] at h7
      rw [h7]
    have hy : yielded ops a.tmps k = some v := by simp [yielded, h2, e]
    have hw : Region.wanted o (yielded ops a.tmps) = (v == b) := by simp [Region.wanted, h1, hy]
    have hvb : (v == b) = gd b v := by cases v <;> cases b <;> rfl
    refine ⟨S', s', ?_⟩
    rw [hw, hvb]
    rcases ifB_ok h5 with ⟨q, g⟩ | ⟨q, g⟩
    · exact .inl ⟨q, g⟩
    · exact .inr ⟨q, g⟩
  · cases hc
theorem RV_of {i : Nat} {z : Value} (hi : ops[i]? = some o) (hw : Region.wanted o (yielded ops a.tmps) = true) (hr : (execOp a.eval o).run P w = .ok (.value z) w) : RV P ops i z a w := by
  unfold RV op1 wpOp
  simp only [hi, hw, if_true]
  exact .inl (o_val hr ⟨by rw [dstOf_eq hi], rfl⟩)
theorem RV_un {i : Nat} (hi : ops[i]? = some o) (hw : Region.wanted o (yielded ops a.tmps) = false) : RV P ops i undef a w := by
  unfold RV op1 wpOp
  simp only [hi, hw]
  constructor
  · rw [dstOf_eq hi]
  · trivial
theorem op1_un {i : Nat} {K : Act → World → Prop} (hi : ops[i]? = some o) (hw : Region.wanted o (yielded ops a.tmps) = false) (k : K (a.put o.dst undef) w) : op1 P ops i K a w := by
  unfold op1 wpOp
  simp only [hi, hw]
  exact k
theorem op1_yes {i : Nat} {K : Act → World → Prop} (hi : ops[i]? = some o) (hw : Region.wanted o (yielded ops a.tmps) = true) (k : o.wp P a w K Q0) : op1 P ops i K a w := by
  unfold op1 wpOp
  simp only [hi, hw, if_true]
  exact .inl k
theorem chkD_ok {d : Option Nat} (h : chkD N d o = true) : o.dst = d ∧ ∀ t, d = some t → t < N := by
  unfold chkD at h
  simp only [Bool.and_eq_true, decide_eq_true_eq] at h
  refine ⟨h.1, fun t ht => ?_⟩
  subst ht
  simpa [Nat.blt_eq] using h.2
theorem call_run {dst : Option Tmp} {ty : TypeId} {pos : String} {af : Array Edge} {g : Option (Nat × Bool)} {f : Nat} {args : Array Operand} {ta : Array TypeId} (hf : okF P f = some (false, false)) :
    (execOp a.eval ⟨dst, .call { callee := .value (.func f), args := args, argTypes := ta }, ty, pos, af, g⟩).run P w = .ok (.enter f (args.toList.map a.eval).toArray) w := by
  simp [execOp, resolve, Act.eval, Deferred.ofValue, invoke]
  rw [run_callFunc hf]
  congr 2
  apply Array.ext'
  simp
theorem callT_run {dst : Option Tmp} {ty : TypeId} {pos : String} {af : Array Edge} {g : Option (Nat × Bool)} {t f : Nat} {args : Array Operand} {ta : Array TypeId} (hf : okF P f = some (false, false)) (hv : a.tmps.getD t undef = .func (.func f) #[] #[]) :
    (execOp a.eval ⟨dst, .call { callee := .value (.tmp t), args := args, argTypes := ta }, ty, pos, af, g⟩).run P w = .ok (.enter f (args.toList.map a.eval).toArray) w := by
  have hv2 : a.eval (.tmp t) = .func (.func f) #[] #[] := hv
  simp only [execOp, resolve, hv2]
  simp [Deferred.ofValue, invoke]
  rw [run_callFunc hf]
  congr 2
  apply Array.ext'
  simp
structure Ext (E : Env) (ρ : Ren) (E' : Env) (ρ' : Ren) : Prop where
  env : EEq ρ E E'
  le : ρ.Le ρ'
  one : EOk E'
theorem Ext.of (hE : EOk E) {ρ ρ' : Ren} (h : ρ.Le ρ') : Ext E ρ E ρ' := ⟨⟨fun _ _ _ => rfl, MLe.refl _⟩, h, hE⟩
theorem Ext.trans {E1 E2 E3 : Env} {r1 r2 r3 : Ren} (h : Ext E1 r1 E2 r2) (k : Ext E2 r2 E3 r3) : Ext E1 r1 E3 r3 :=
  ⟨⟨fun i e hi => (k.env.at_ i e (h.le i e hi)).trans (h.env.at_ i e hi), MLe.trans h.env.mem k.env.mem⟩, h.le.trans k.le, k.one⟩
theorem Ext.den {E' : Env} {ρ' : Ren} (x : Ext E ρ E' ρ') {v : AV} {z : Value} (h : den E ρ v = some z) : den E' ρ' v = some z := den_mono x.le v z (den_env x.env v z h)
theorem SR.ext {E' : Env} {ρ' : Ren} (s : SR E ρ N S a) (x : Ext E ρ E' ρ') : SR E' ρ' N S a := ⟨s.size, s.defs, fun t => (s.at_ t).imp id fun ⟨y, h1, h2⟩ => ⟨y, x.den h1, h2⟩⟩
def CallOk (P : Program) (cf : CallF) : Prop := ∀ (f : Nat) (vs : List AV) (M : T) (nx : Nat) (K : AV → T → Nat → Bool) (E : Env) (ρ : Ren) (G : GS) (F : List Chunk) (w : World) (xs : List Value) (R : Ending → World → Prop), EOk E →
  Sim E ρ G F M nx w → denL E ρ vs = some xs → cf f vs M nx K = true → (∀ v M' nx' E' ρ' w' z, K v M' nx' = true → Ext E ρ E' ρ' → Sim E' ρ' G F M' nx' w' → den E' ρ' v = some z → R (.returned z) w') → Calls P f xs.toArray w R
theorem regX_ok {cf : CallF} (hcf : CallOk P cf) {Q : Act → World → Prop} : ∀ {sts : List XSt} {S : SL} {M : T} {nx : Nat} {E : Env} {ρ : Ren} {a : Act} {w : World} {K : SL → T → Nat → Bool}, EOk E → (∀ st ∈ sts, chkSt P ops N st = true) → SR E ρ N S a → Sim E ρ G F M nx w → regX cf sts S M nx K = true →
    (∀ S' M' nx' E' ρ' a' w', K S' M' nx' = true → Ext E ρ E' ρ' → SR E' ρ' N S' a' → Sim E' ρ' G F M' nx' w' → Q a' w') → wpL P ops Q (sts.map kOfSt) a w
  | [], S, M, nx, E, ρ, a, w, K, hE, _, s, h, hk, hq => hq _ _ _ _ _ _ _ hk (Ext.of hE (Ren.Le.refl _)) s h
  | st :: sts, S, M, nx, E, ρ, a, w, K, hE, hc, s, h, hk, hq => by
    have hst := hc st (by simp)
    have hk' : stepX cf st S M nx (fun S M nx => regX cf sts S M nx K) = true := hk
    have nextE : ∀ {S' M' nx' E' ρ' a' w'}, regX cf sts S' M' nx' K = true → Ext E ρ E' ρ' → SR E' ρ' N S' a' → Sim E' ρ' G F M' nx' w' → wpL P ops Q (sts.map kOfSt) a' w' := fun r hl s' h' =>
      regX_ok hcf hl.one (fun st hst => hc st (by simp [hst])) s' h' r fun S' M' nx' E2 ρ' a' w' k1 k2 => hq S' M' nx' E2 ρ' a' w' k1 (hl.trans k2)
    have next : ∀ {S' M' nx' ρ' a' w'}, regX cf sts S' M' nx' K = true → ρ.Le ρ' → SR E ρ' N S' a' → Sim E ρ' G F M' nx' w' → wpL P ops Q (sts.map kOfSt) a' w' := fun r hl s' h' => nextE r (Ext.of hE hl) s' h'
    cases st with
    | p i d g x =>
      simp only [chkSt] at hst
      split at hst
      case h_2 => cases hst
      rename_i o hi
      simp only [Bool.and_eq_true] at hst
      obtain ⟨⟨c1, c2⟩, c3⟩ := hst
      obtain ⟨d1, d2⟩ := chkD_ok c1
      obtain ⟨S, s, hgd⟩ := guard_ok (Kn := fun S => setX d (.tup []) S fun S => regX cf sts S M nx K) (Ky := fun S => opP x S fun v => setX d v S fun S => regX cf sts S M nx K) s c2 hk'
      rcases hgd with ⟨q1, q2⟩ | ⟨q1, q2⟩
      · obtain ⟨v, z, g1, g2, g3⟩ := opP_ok hE s c3 q2
        rw [setX_eq] at g2
        refine ⟨z, fun w' => RV_of hi q1 (g3 w'), ?_⟩
        rw [dstOf_eq hi, d1]
        exact next g2 (Ren.Le.refl _) (s.put d2 (.inr g1)) h
      · rw [setX_eq] at q2
        refine ⟨undef, fun w' => RV_un hi q1, ?_⟩
        rw [dstOf_eq hi, d1]
        exact next q2 (Ren.Le.refl _) (s.put d2 (.inr (den_undef _ _))) h
    | r i d g x =>
      simp only [chkSt] at hst
      split at hst
      case h_2 => cases hst
      rename_i o hi
      simp only [Bool.and_eq_true] at hst
      obtain ⟨⟨c1, c2⟩, c3⟩ := hst
      obtain ⟨d1, d2⟩ := chkD_ok c1
      obtain ⟨S, s, hgd⟩ := guard_ok (Kn := fun S => setX d (.tup []) S fun S => regX cf sts S M nx K) (Ky := fun S => opR x S M fun v => setX d v S fun S => regX cf sts S M nx K) s c2 hk'
      rcases hgd with ⟨q1, q2⟩ | ⟨q1, q2⟩
      · obtain ⟨v, z, g1, g2, g3⟩ := opR_ok h s c3 q2
        rw [setX_eq] at g2
        refine ⟨z, RV_of hi q1 g3, ?_⟩
        rw [dstOf_eq hi, d1]
        exact next g2 (Ren.Le.refl _) (s.put d2 (.inr g1)) h
      · rw [setX_eq] at q2
        refine ⟨undef, RV_un hi q1, ?_⟩
        rw [dstOf_eq hi, d1]
        exact next q2 (Ren.Le.refl _) (s.put d2 (.inr (den_undef _ _))) h
    | e i d g x =>
      simp only [chkSt] at hst
      split at hst
      case h_2 => cases hst
      rename_i o hi
      simp only [Bool.and_eq_true] at hst
      obtain ⟨⟨c1, c2⟩, c3⟩ := hst
      obtain ⟨d1, d2⟩ := chkD_ok c1
      obtain ⟨S, s, hgd⟩ := guard_ok (Kn := fun S => setX d (.tup []) S fun S => regX cf sts S M nx K) (Ky := fun S => opE x S M nx fun v M nx => setX d v S fun S => regX cf sts S M nx K) s c2 hk'
      rcases hgd with ⟨q1, q2⟩ | ⟨q1, q2⟩
      · obtain ⟨v, M', nx', ρ', w', g1, g2, g3, g4⟩ := opE_ok hE h s c3 q2
        rw [setX_eq] at g3
        refine op1_yes hi q1 ?_
        rcases g4 with ⟨z, g5, g6⟩ | ⟨g5, g6⟩
        · refine o_val g6 ?_
          rw [d1]
          exact next g3 g1 ((s.mono g1).put d2 (.inr g5)) g2
        · refine o_skip g6 ?_
          rw [d1]
          exact next g3 g1 ((s.mono g1).put d2 (.inl g5)) g2
      · rw [setX_eq] at q2
        refine op1_un hi q1 ?_
        rw [d1]
        exact next q2 (Ren.Le.refl _) (s.put d2 (.inr (den_undef _ _))) h
    | k i d g t f xs =>
      simp only [chkSt] at hst
      split at hst
      case h_2 => cases hst
      rename_i o hi
      simp only [Bool.and_eq_true] at hst
      obtain ⟨⟨c1, c2⟩, c3⟩ := hst
      obtain ⟨d1, d2⟩ := chkD_ok c1
      obtain ⟨dst, op, ty, pos, af, gg⟩ := o
      obtain ⟨args, ta, hop, c5, c6⟩ := isCallT_ok c3
      dsimp only at hop
      subst hop
      obtain ⟨S, s, hgd⟩ := guard_ok (Kn := fun S => setX d (.tup []) S fun S => regX cf sts S M nx K) (Ky := fun S => must (isFn f (getS t S)) (evL S xs fun vs => cf f vs M nx fun v M nx => setX d v S fun S => regX cf sts S M nx K)) s c2 hk'
      rcases hgd with ⟨q1, q2⟩ | ⟨q1, q2⟩
      · obtain ⟨hu, q2⟩ := must_ok q2
        have hu := isFn_ok hu
        have hv : a.tmps.getD t undef = .func (.func f) #[] #[] := by
          rcases s.at_ t with q | ⟨x, y1, y2⟩
          · rw [hu] at q; cases q
          · rw [hu] at y1
            simp only [den, denL, Option.some.injEq] at y1
            rw [y2, ← y1]
        obtain ⟨vs, g1, g2, g3⟩ := evL_ok s c5 q2
        refine op1_yes hi q1 (o_enter (callT_run c6 hv) ?_)
        refine hcf _ vs M nx _ E ρ G F w _ _ hE h g1 g2 fun v M' nx' E' ρ' w' z k1 k2 k3 k4 => ⟨z, rfl, ?_⟩
        rw [setX_eq] at k1
        simp only at d1
        rw [d1]
        exact nextE k1 k2 ((s.ext k2).put d2 (.inr k4)) k3
      · rw [setX_eq] at q2
        refine op1_un hi q1 ?_
        simp only at d1
        rw [d1]
        exact next q2 (Ren.Le.refl _) (s.put d2 (.inr (den_undef _ _))) h
    | c i d g f xs =>
      simp only [chkSt] at hst
      split at hst
      case h_2 => cases hst
      rename_i o hi
      simp only [Bool.and_eq_true] at hst
      obtain ⟨⟨c1, c2⟩, c3⟩ := hst
      obtain ⟨d1, d2⟩ := chkD_ok c1
      obtain ⟨dst, op, ty, pos, af, gg⟩ := o
      obtain ⟨args, ta, hop, c5, c6⟩ := isCall_ok c3
      dsimp only at hop
      subst hop
      obtain ⟨S, s, hgd⟩ := guard_ok (Kn := fun S => setX d (.tup []) S fun S => regX cf sts S M nx K) (Ky := fun S => evL S xs fun vs => cf f vs M nx fun v M nx => setX d v S fun S => regX cf sts S M nx K) s c2 hk'
      rcases hgd with ⟨q1, q2⟩ | ⟨q1, q2⟩
      · obtain ⟨vs, g1, g2, g3⟩ := evL_ok s c5 q2
        refine op1_yes hi q1 (o_enter (call_run c6) ?_)
        refine hcf _ vs M nx _ E ρ G F w _ _ hE h g1 g2 fun v M' nx' E' ρ' w' z k1 k2 k3 k4 => ⟨z, rfl, ?_⟩
        rw [setX_eq] at k1
        simp only at d1
        rw [d1]
        exact nextE k1 k2 ((s.ext k2).put d2 (.inr k4)) k3
      · rw [setX_eq] at q2
        refine op1_un hi q1 ?_
        simp only at d1
        rw [d1]
        exact next q2 (Ren.Le.refl _) (s.put d2 (.inr (den_undef _ _))) h
    | a i d g x =>
      simp only [chkSt] at hst
      split at hst
      case h_2 => cases hst
      rename_i o hi
      simp only [Bool.and_eq_true] at hst
      obtain ⟨⟨c1, c2⟩, c3⟩ := hst
      obtain ⟨d1, d2⟩ := chkD_ok c1
      obtain ⟨S, s, hgd⟩ := guard_ok (Kn := fun S => must (isU (getS d S)) (regX cf sts S M nx K)) (Ky := fun S => opR x S M fun v => must (eqA v (getS d S)) (regX cf sts S M nx K)) s c2 hk'
      rcases hgd with ⟨q1, q2⟩ | ⟨q1, q2⟩
      · obtain ⟨v, z, g1, g2, g3⟩ := opR_ok h s c3 q2
        obtain ⟨g4, g5⟩ := must_ok g2
        have g4 := eqA_ok g4
        refine ⟨⟨z, RV_of hi q1 g3, ?_⟩, next g5 (Ren.Le.refl _) s h⟩
        rw [dstOf_eq hi, d1]
        have hz : a.tmps.getD d undef = z := by
          rcases s.at_ d with e | ⟨x', e1, e2⟩
          · rw [g4, e] at g1; cases g1
          · rw [← g4, g1] at e1
            cases e1
            exact e2
        exact put_self hz
      · obtain ⟨g4, g5⟩ := must_ok q2
        have g4 := isU_ok g4
        refine ⟨⟨undef, RV_un hi q1, ?_⟩, next g5 (Ren.Le.refl _) s h⟩
        rw [dstOf_eq hi, d1]
        have hz : a.tmps.getD d undef = undef := by
          rcases s.at_ d with e | ⟨x', e1, e2⟩
          · rw [g4] at e; cases e
          · rw [g4, den_undef] at e1
            cases e1
            exact e2
        exact put_self hz
where
  put_self {a : Act} {d : Nat} {z : Value} (h : a.tmps.getD d undef = z) : a.put (some d) z = a := by
    simp only [Act.put]
    have : a.tmps.setIfInBounds d z = a.tmps := by
      apply Array.ext_getElem?
      intro j
      by_cases q : d = j
      · subst q
        rcases Nat.lt_or_ge d a.tmps.size with hl | hl
        · rw [Array.getElem?_setIfInBounds_self_of_lt hl, Array.getElem?_eq_getElem hl]
          simp only [Array.getD, hl, dif_pos, Array.getInternal_eq_getElem] at h
          rw [h]
        · rw [Array.getElem?_eq_none (by simpa using hl), Array.getElem?_eq_none hl]
      · rw [Array.getElem?_setIfInBounds_ne q]
    rw [this]
inductive XTr | leaf (sts : List XSt) | split (x y : Nat) (s t : XTr)
def toTr : XTr → Tr
  | .leaf sts => .leaf (sts.map kOfSt)
  | .split x y s t => .split x y (toTr s) (toTr t)
def chkTr (P : Program) (ops : Array Oper) (N : Nat) : XTr → Bool
  | .leaf sts => sts.all (chkSt P ops N)
  | .split _ _ s t => chkTr P ops N s && chkTr P ops N t
noncomputable def treeX (cf : CallF) (tr : XTr) (S : SL) (M : T) (nx : Nat) (K : SL → T → Nat → Bool) : Bool := XTr.rec (fun sts => regX cf sts S M nx K) (fun _ _ _ _ p q => must p q) tr
theorem treeX_ok (hE : EOk E) {cf : CallF} (hcf : CallOk P cf) {Q : Act → World → Prop} {K : SL → T → Nat → Bool} (s : SR E ρ N S a) (h : Sim E ρ G F M nx w)
    (hq : ∀ S' M' nx' E' ρ' a' w', K S' M' nx' = true → Ext E ρ E' ρ' → SR E' ρ' N S' a' → Sim E' ρ' G F M' nx' w' → Q a' w') : ∀ {tr : XTr}, chkTr P ops N tr = true → treeX cf tr S M nx K = true → wpTr P ops Q a w (toTr tr)
  | .leaf sts, hc, hk => regX_ok hcf hE (fun st hst => List.all_eq_true.1 hc st hst) s h hk hq
  | .split x y t u, hc, hk => by
    simp only [chkTr, Bool.and_eq_true] at hc
    obtain ⟨k1, k2⟩ := must_ok (b := treeX cf t S M nx K) (x := treeX cf u S M nx K) hk
    exact ⟨treeX_ok hE hcf s h hq hc.1 k1, treeX_ok hE hcf s h hq hc.2 k2⟩
end
noncomputable def lkR (ps : List (Nat × Nat)) (i : Nat) : Option Nat := List.rec none (fun p _ ih => Bool.rec ih (some p.2) (Nat.beq p.1 i)) ps
theorem lkR_mem : ∀ {ps : List (Nat × Nat)} {i j : Nat}, lkR ps i = some j → (i, j) ∈ ps
  | [], i, j, h => by cases h
  | p :: ps, i, j, h => by
    have h' : (Bool.rec (lkR ps i) (some p.2) (Nat.beq p.1 i) : Option Nat) = some j := h
    cases hb : Nat.beq p.1 i with
    | true =>
      rw [hb] at h'
      cases h'
      have := Nat.eq_of_beq_eq_true hb
      subst this
      simp
    | false => rw [hb] at h'; exact List.mem_cons_of_mem _ (lkR_mem h')
def renR (ps : List (Nat × Nat)) (ρ : Ren) : Ren := fun j => match ps.find? (fun p => Nat.beq p.2 j) with | some p => ρ p.1 | none => none
def newsOk : List (Nat × Nat) → Bool
  | [] => true
  | p :: ps => (ps.all fun q => !Nat.beq q.2 p.2) && (ps.all fun q => !Nat.beq q.1 p.1) && newsOk ps
theorem renR_at : ∀ {ps : List (Nat × Nat)} {ρ : Ren} {i j : Nat}, newsOk ps = true → (i, j) ∈ ps → renR ps ρ j = ρ i
  | [], ρ, i, j, _, h => by cases h
  | p :: ps, ρ, i, j, ho, h => by
    simp only [newsOk, Bool.and_eq_true] at ho
    rcases List.mem_cons.1 h with rfl | h
    · simp [renR]
    · have hne : Nat.beq p.2 j = false := by
        have := List.all_eq_true.1 ho.1.1 _ h
        simp only [Bool.not_eq_true'] at this
        cases hb : Nat.beq p.2 j with
        | false => rfl
        | true =>
          have := Nat.eq_of_beq_eq_true hb
          subst this
          simp at this
      have := renR_at (ρ := ρ) ho.2 h
      simp only [renR, List.find?_cons, hne] at this ⊢
      exact this
theorem news_inj : ∀ {ps : List (Nat × Nat)} {i j k : Nat}, newsOk ps = true → (i, j) ∈ ps → (i, k) ∈ ps → j = k
  | [], i, j, k, _, h, _ => by cases h
  | p :: ps, i, j, k, ho, h, h2 => by
    simp only [newsOk, Bool.and_eq_true] at ho
    have hno : ∀ q ∈ ps, q.1 ≠ p.1 := fun q hq e => by
      have := List.all_eq_true.1 ho.1.2 q hq
      rw [e] at this
      simp at this
    rcases List.mem_cons.1 h with e1 | h1
    · rcases List.mem_cons.1 h2 with e2 | h3
      · rw [← e1] at e2; injection e2 with _ e; exact e.symm
      · exact absurd (by rw [← e1]) (hno _ h3)
    · rcases List.mem_cons.1 h2 with e2 | h3
      · exact absurd (by rw [← e2]) (hno _ h1)
      · exact news_inj ho.2 h1 h3
noncomputable def renS (ps : List (Nat × Nat)) : SY → Option SY
  | .prow i n => (lkR ps i).map fun j => .prow j n
  | .psub i sz a n => (lkR ps i).map fun j => .psub j sz a n
  | .pfix i n c => (lkR ps i).map fun j => .pfix j n c
  | .rptr i sz q o => (lkR ps i).map fun j => .rptr j sz q o
  | .kmp i => (lkR ps i).map fun j => .kmp j
  | s => some s
mutual
noncomputable def renA (ps : List (Nat × Nat)) : AV → Option AV
  | .bad => none
  | .int k z => some (.int k z)
  | .bool b => some (.bool b)
  | .str l => some (.str l)
  | .nilP => some .nilP
  | .nilS => some .nilS
  | .nilM => some .nilM
  | .nilF => some .nilF
  | .nilI => some .nilI
  | .ptr i o => (lkR ps i).map fun j => .ptr j o
  | .sl i o n c => (lkR ps i).map fun j => .sl j o n c
  | .map i => (lkR ps i).map fun j => .map j
  | .yl i => (lkR ps i).map fun j => .yl j
  | .any _ => none
  | .sy s => (renS ps s).map .sy
  | .iface t v => (renA ps v).map fun u => .iface t u
  | .fn f c => (renL ps c).map fun u => .fn f u
  | .agg l => (renL ps l).map .agg
  | .tup l => (renL ps l).map .tup
noncomputable def renL (ps : List (Nat × Nat)) : List AV → Option (List AV)
  | [] => some []
  | v :: r => (renA ps v).bind fun u => (renL ps r).map fun l => u :: l
end
section
variable {P : Program} {E : Env} {ρ : Ren} {G : GS} {F : List Chunk} {M : T} {nx : Nat} {w : World} {ps : List (Nat × Nat)} {t2 : Nat → Value}
theorem renS_den (ho : newsOk ps = true) {s u : SY} {x : Value} (h : renS ps s = some u) (hd : denS E ρ s = some x) : denS ⟨t2, E.M⟩ (renR ps ρ) u = some x := by
  cases s with
  | prow i n =>
    simp only [renS, Option.map_eq_some_iff] at h
    obtain ⟨j, h1, rfl⟩ := h
    simp only [denS, renR_at ho (lkR_mem h1)] at hd ⊢
    exact hd
  | psub i sz a n =>
    simp only [renS, Option.map_eq_some_iff] at h
    obtain ⟨j, h1, rfl⟩ := h
    simp only [denS, renR_at ho (lkR_mem h1)] at hd ⊢
    exact hd
  | pfix i n c =>
    simp only [renS, Option.map_eq_some_iff] at h
    obtain ⟨j, h1, rfl⟩ := h
    simp only [denS, renR_at ho (lkR_mem h1)] at hd ⊢
    exact hd
  | rptr i sz q o =>
    simp only [renS, Option.map_eq_some_iff] at h
    obtain ⟨j, h1, rfl⟩ := h
    simp only [denS, renR_at ho (lkR_mem h1)] at hd ⊢
    exact hd
  | kmp i =>
    simp only [renS, Option.map_eq_some_iff] at h
    obtain ⟨j, h1, rfl⟩ := h
    simp only [denS, renR_at ho (lkR_mem h1)] at hd ⊢
    exact hd
  | int k z => cases h; exact hd
  | bool p => cases h; exact hd
  | str l => cases h; exact hd
  | imm => cases h; exact hd
  | pim => cases h; exact hd
mutual
theorem renA_den (ho : newsOk ps = true) : ∀ (v u : AV) (x : Value), renA ps v = some u → den E ρ v = some x → den ⟨t2, E.M⟩ (renR ps ρ) u = some x
  | .bad, u, x, h, _ => by simp [renA] at h
  | .any _, u, x, h, _ => by simp [renA] at h
  | .int _ _, u, x, h, hd | .bool _, u, x, h, hd | .str _, u, x, h, hd | .nilP, u, x, h, hd | .nilS, u, x, h, hd | .nilM, u, x, h, hd | .nilF, u, x, h, hd | .nilI, u, x, h, hd => by
    simp only [renA, Option.some.injEq] at h
    subst h
    simpa [den] using hd
  | .ptr i o, u, x, h, hd => by
    simp only [renA, Option.map_eq_some_iff] at h
    obtain ⟨j, h1, rfl⟩ := h
    simp only [den, renR_at ho (lkR_mem h1)] at hd ⊢
    exact hd
  | .sl i o n c, u, x, h, hd => by
    simp only [renA, Option.map_eq_some_iff] at h
    obtain ⟨j, h1, rfl⟩ := h
    simp only [den, renR_at ho (lkR_mem h1)] at hd ⊢
    exact hd
  | .map i, u, x, h, hd => by
    simp only [renA, Option.map_eq_some_iff] at h
    obtain ⟨j, h1, rfl⟩ := h
    simp only [den, renR_at ho (lkR_mem h1)] at hd ⊢
    exact hd
  | .yl i, u, x, h, hd => by
    simp only [renA, Option.map_eq_some_iff] at h
    obtain ⟨j, h1, rfl⟩ := h
    simp only [den, renR_at ho (lkR_mem h1)] at hd ⊢
    exact hd
  | .sy s, u, x, h, hd => by
    simp only [renA, Option.map_eq_some_iff] at h
    obtain ⟨s', h1, rfl⟩ := h
    simp only [den] at hd ⊢
    exact renS_den ho h1 hd
  | .iface t v, u, x, h, hd => by
    simp only [renA, Option.map_eq_some_iff] at h
    obtain ⟨y, h1, rfl⟩ := h
    simp only [den] at hd ⊢
    rcases e : den E ρ v with _ | z
    · rw [e] at hd; cases hd
    · rw [e] at hd; rw [renA_den ho v y z h1 e]; exact hd
  | .fn f c, u, x, h, hd => by
    simp only [renA, Option.map_eq_some_iff] at h
    obtain ⟨y, h1, rfl⟩ := h
    simp only [den] at hd ⊢
    rcases e : denL E ρ c with _ | z
    · rw [e] at hd; cases hd
    · rw [e] at hd; rw [renL_den ho c y z h1 e]; exact hd
  | .agg c, u, x, h, hd => by
    simp only [renA, Option.map_eq_some_iff] at h
    obtain ⟨y, h1, rfl⟩ := h
    simp only [den] at hd ⊢
    rcases e : denL E ρ c with _ | z
    · rw [e] at hd; cases hd
    · rw [e] at hd; rw [renL_den ho c y z h1 e]; exact hd
  | .tup c, u, x, h, hd => by
    simp only [renA, Option.map_eq_some_iff] at h
    obtain ⟨y, h1, rfl⟩ := h
    simp only [den] at hd ⊢
    rcases e : denL E ρ c with _ | z
    · rw [e] at hd; cases hd
    · rw [e] at hd; rw [renL_den ho c y z h1 e]; exact hd
theorem renL_den (ho : newsOk ps = true) : ∀ (l m : List AV) (xs : List Value), renL ps l = some m → denL E ρ l = some xs → denL ⟨t2, E.M⟩ (renR ps ρ) m = some xs
  | [], m, xs, h, hd => by
    simp only [renL, Option.some.injEq] at h
    subst h
    simpa [denL] using hd
  | v :: r, m, xs, h, hd => by
    obtain ⟨x, ys, h1, h2, rfl⟩ := denL_cons hd
    simp only [renL, Option.bind_eq_some_iff, Option.map_eq_some_iff] at h
    obtain ⟨u, g1, l, g2, rfl⟩ := h
    exact denL_mk (renA_den ho v u x g1 h1) (renL_den ho r l ys g2 h2)
end
noncomputable def renLL (ps : List (Nat × Nat)) : List (List AV) → Option (List (List AV))
  | [] => some []
  | v :: r => (renL ps v).bind fun u => (renLL ps r).map fun l => u :: l
theorem renL_len : ∀ {l m : List AV}, renL ps l = some m → m.length = l.length
  | [], m, h => by simp only [renL, Option.some.injEq] at h; subst h; rfl
  | v :: r, m, h => by
    simp only [renL, Option.bind_eq_some_iff, Option.map_eq_some_iff] at h
    obtain ⟨u, g1, l, g2, rfl⟩ := h
    simp [renL_len g2]
theorem renL_app : ∀ {l m a b : List AV}, renL ps l = some a → renL ps m = some b → renL ps (l ++ m) = some (a ++ b)
  | [], m, a, b, h, h2 => by simp only [renL, Option.some.injEq] at h; subst h; simpa using h2
  | v :: r, m, a, b, h, h2 => by
    simp only [renL, Option.bind_eq_some_iff, Option.map_eq_some_iff] at h
    obtain ⟨u, g1, l, g2, rfl⟩ := h
    simp [renL, g1, renL_app g2 h2]
theorem renLL_flat : ∀ {l m : List (List AV)}, renLL ps l = some m → renL ps l.flatten = some m.flatten ∧ m.length = l.length ∧ ∀ n, (∀ x ∈ l, x.length = n) → ∀ x ∈ m, x.length = n
  | [], m, h => by simp only [renLL, Option.some.injEq] at h; subst h; exact ⟨rfl, rfl, fun n _ x hx => by simp at hx⟩
  | v :: r, m, h => by
    simp only [renLL, Option.bind_eq_some_iff, Option.map_eq_some_iff] at h
    obtain ⟨u, g1, l, g2, rfl⟩ := h
    obtain ⟨h1, h2, h3⟩ := renLL_flat g2
    refine ⟨renL_app g1 h1, by simp [h2], fun n hn x hx => ?_⟩
    rcases List.mem_cons.1 hx with rfl | hx
    · rw [renL_len g1]; exact hn v (by simp)
    · exact h3 n (fun y hy => hn y (by simp [hy])) x hx
noncomputable def renEs (ps : List (Nat × Nat)) : List (AV × AV × Nat) → Option (List (AV × AV × Nat))
  | [] => some []
  | e :: r => (renA ps e.1).bind fun k => (renA ps e.2.1).bind fun v => (renEs ps r).map fun l => (k, v, e.2.2) :: l
theorem renEs_den (ho : newsOk ps = true) : ∀ {l m : List (AV × AV × Nat)} {ms : List MapEntry}, renEs ps l = some m → denE E ρ l = some ms → denE ⟨t2, E.M⟩ (renR ps ρ) m = some ms
  | [], m, ms, h, hd => by
    simp only [renEs, Option.some.injEq] at h
    subst h
    simpa [denE] using hd
  | (k, v, b) :: r, m, ms, h, hd => by
    obtain ⟨x, y, ms', h1, h2, h3, rfl⟩ := denE_cons hd
    simp only [renEs, Option.bind_eq_some_iff, Option.map_eq_some_iff] at h
    obtain ⟨k', g1, v', g2, l, g3, rfl⟩ := h
    simp only [denE, renA_den ho k k' x g1 h1, renA_den ho v v' y g2 h2, renEs_den ho g3 h3]
noncomputable def renO (ps : List (Nat × Nat)) : AObj → Option AObj
  | .blk g Ty sz els => (renLL ps els).map fun e => .blk g Ty sz e
  | .map es cl => (renEs ps es).map fun e => .map e cl
  | .prow Ty sz α l enc => some (.prow Ty sz α l enc)
  | .kmap sure ak av α l k v => some (.kmap sure ak av α l k v)
  | .defs => some .defs
  | .iter .. => none
theorem renO_rel (ho : newsOk ps = true) {e : REnt} {o o' : AObj} {ob : Obj} (h : renO ps o = some o') (hr : ORel E ρ e o ob) : ORel ⟨t2, E.M⟩ (renR ps ρ) e o' ob := by
  cases o with
  | blk g Ty sz els =>
    simp only [renO, Option.map_eq_some_iff] at h
    obtain ⟨els', h1, rfl⟩ := h
    obtain ⟨f1, f2, f3⟩ := renLL_flat h1
    obtain ⟨q0, q1, arr, xs, q2, q3, q4⟩ := hr
    refine ⟨f3 sz q0, q1, arr, xs, q2, renL_den ho _ _ _ f1 q3, ?_⟩
    rw [f2]; exact q4
  | map es cl =>
    simp only [renO, Option.map_eq_some_iff] at h
    obtain ⟨es', h1, rfl⟩ := h
    obtain ⟨ms, q1, q2⟩ := hr
    exact ⟨ms, renEs_den ho h1 q1, q2⟩
  | iter => simp [renO] at h
  | defs =>
    simp only [renO, Option.some.injEq] at h
    subst h; exact hr
  | prow Ty sz α l enc =>
    simp only [renO, Option.some.injEq] at h
    subst h; exact hr
  | kmap sure ak av α l k v =>
    simp only [renO, Option.some.injEq] at h
    subst h
    obtain ⟨es, cl, ms, h1, h2, h3⟩ := hr
    exact ⟨es, cl, ms, h1, denE_any (E := E) (E' := ⟨t2, E.M⟩) rfl h1 h2, h3⟩
theorem renO_hasB {e : REnt} {o o' : AObj} (h : renO ps o = some o') : hasB e o' = hasB e o ∧ (NilO o → NilO o') := by
  cases o with
  | blk g Ty sz els =>
    simp only [renO, Option.map_eq_some_iff] at h
    obtain ⟨els', h1, rfl⟩ := h
    exact ⟨rfl, fun q => q⟩
  | map es cl =>
    simp only [renO, Option.map_eq_some_iff] at h
    obtain ⟨es', h1, rfl⟩ := h
    exact ⟨rfl, fun q => q⟩
  | iter => simp [renO] at h
  | defs =>
    simp only [renO, Option.some.injEq] at h
    subst h; exact ⟨rfl, fun q => q⟩
  | prow Ty sz α l enc =>
    simp only [renO, Option.some.injEq] at h
    subst h; exact ⟨rfl, fun q => q⟩
  | kmap sure ak av α l k v =>
    simp only [renO, Option.some.injEq] at h
    subst h; exact ⟨rfl, fun q => q⟩
noncomputable def renM (ps : List (Nat × Nat)) (M : T) (l : List (Nat × Nat)) : T → (T → Bool) → Bool := List.rec (fun acc K => K acc) (fun p _ ih acc K => atO (M.get p.1) fun o => atO (renO ps o) fun o' => T.set fuelT acc p.2 (some o') fun acc => ih acc K) l
theorem renM_ok : ∀ {l : List (Nat × Nat)} {acc : T} {K : T → Bool}, (∀ j o, acc.get j = some o → ∃ i o0, (i, j) ∈ ps ∧ M.get i = some o0 ∧ renO ps o0 = some o) → (∀ p ∈ l, p ∈ ps) → renM ps M l acc K = true →
    ∃ M', K M' = true ∧ ∀ j o, M'.get j = some o → ∃ i o0, (i, j) ∈ ps ∧ M.get i = some o0 ∧ renO ps o0 = some o
  | [], acc, K, ha, _, h => ⟨acc, h, ha⟩
  | p :: l, acc, K, ha, hl, h => by
    have h' : (atO (M.get p.1) fun o => atO (renO ps o) fun o' => T.set fuelT acc p.2 (some o') fun acc => renM ps M l acc K) = true := h
    obtain ⟨o, h1, h2⟩ := atO_ok h'
    obtain ⟨o', h3, h4⟩ := atO_ok h2
    obtain ⟨acc', h5, s1, s2⟩ := T.set_ok _ _ _ _ _ h4
    refine renM_ok (fun j ob hj => ?_) (fun q hq => hl q (by simp [hq])) h5
    by_cases e : j = p.2
    · subst e
      rw [s1] at hj
      cases hj
      exact ⟨p.1, o, hl p (by simp), h1, h3⟩
    · rw [s2 j e] at hj
      exact ha j ob hj
noncomputable def renX (live : List Nat) (ps : List (Nat × Nat)) (nx' : Nat) (S : SL) (M : T) (K : SL → T → Nat → Bool) : Bool :=
  must (newsOk ps && ps.all fun p => Nat.blt p.2 nx') (renM ps M ps .leaf fun M' => List.rec (motive := fun _ => SL → Bool) (fun acc => K acc M' nx') (fun t _ ih acc => Option.casesOn (renA ps (getS t S)) (ih acc) fun v => ih (.cons t v acc)) live .nil)
theorem Sim.ren (h : Sim E ρ G F M nx w) (ho : newsOk ps = true) {nx' : Nat} (hn : ∀ p ∈ ps, p.2 < nx') {M' : T} (hM : ∀ j o, M'.get j = some o → ∃ i o0, (i, j) ∈ ps ∧ M.get i = some o0 ∧ renO ps o0 = some o) : Sim E (renR ps ρ) G F M' nx' w := by
  obtain ⟨c, hh, hob, hinj⟩ := h.ex
  refine ⟨⟨c, hh, fun j o hj => ?_, fun j k e f o o' hj hk he hf hb1 hb2 hb => ?_⟩, h.mem, fun j hj => ?_⟩
  · obtain ⟨i, o0, h1, h2, h3⟩ := hM j o hj
    obtain ⟨e, a1, q⟩ := hob i o0 h2
    have hB := renO_hasB (e := e) h3
    refine ⟨e, by rw [renR_at ho h1]; exact a1, ?_⟩
    rcases q with ⟨q1, ob, q2, q3⟩ | ⟨q1, q2⟩
    · exact .inl ⟨by rw [hB.1]; exact q1, ob, q2, renO_rel ho h3 q3⟩
    · exact .inr ⟨by rw [hB.1]; exact q1, hB.2 q2⟩
  · obtain ⟨i, o0, h1, h2, h3⟩ := hM j o hj
    obtain ⟨i', o1, g1, g2, g3⟩ := hM k o' hk
    rw [renR_at ho h1] at he
    rw [renR_at ho g1] at hf
    rw [(renO_hasB (e := e) h3).1] at hb1
    rw [(renO_hasB (e := f) g3).1] at hb2
    have := hinj i i' e f o0 o1 h2 g2 he hf hb1 hb2 hb
    subst this
    exact news_inj ho h1 g1
  · unfold renR
    split
    · rename_i p hp
      have h1 := List.mem_of_find?_eq_some hp
      have h2 := List.find?_some hp
      have := Nat.eq_of_beq_eq_true h2
      have := hn p h1
      omega
    · rfl
theorem renX_ok {N : Nat} {S : SL} {a : Act} (s : SR E ρ N S a) (h : Sim E ρ G F M nx w) {live : List Nat} {nx' : Nat} {K : SL → T → Nat → Bool} (hk : renX live ps nx' S M K = true) :
    ∃ S' M' ρ', SR E ρ' N S' a ∧ Sim E ρ' G F M' nx' w ∧ K S' M' nx' = true ∧ ∀ i j, (i, j) ∈ ps → ρ' j = ρ i := by
  obtain ⟨h1, h2⟩ := must_ok hk
  simp only [Bool.and_eq_true] at h1
  obtain ⟨M', h3, h4⟩ := renM_ok (ps := ps) (fun j o hj => by simp [T.get_leaf] at hj) (fun p hp => hp) h2
  have hn : ∀ p ∈ ps, p.2 < nx' := fun p hp => by
    have := List.all_eq_true.1 h1.2 p hp
    simpa [Nat.blt_eq] using this
  have key : ∀ (live : List Nat) (acc : SL), SR E (renR ps ρ) N acc a → (List.rec (motive := fun _ => SL → Bool) (fun acc => K acc M' nx') (fun t _ ih acc => Option.casesOn (renA ps (getS t S)) (ih acc) fun v => ih (.cons t v acc)) live acc) = true → ∃ S', SR E (renR ps ρ) N S' a ∧ K S' M' nx' = true := by
    intro live
    induction live with
    | nil => exact fun acc sa hk => ⟨acc, sa, hk⟩
    | cons t live ih =>
      intro acc sa hk
      have hk' : Option.casesOn (motive := fun _ => Bool) (renA ps (getS t S)) (List.rec (motive := fun _ => SL → Bool) (fun acc => K acc M' nx') (fun t _ ih acc => Option.casesOn (renA ps (getS t S)) (ih acc) fun v => ih (.cons t v acc)) live acc)
        (fun v => List.rec (motive := fun _ => SL → Bool) (fun acc => K acc M' nx') (fun t _ ih acc => Option.casesOn (renA ps (getS t S)) (ih acc) fun v => ih (.cons t v acc)) live (.cons t v acc)) = true := hk
      rcases e : renA ps (getS t S) with _ | v
      · rw [e] at hk'
        exact ih acc sa hk'
      · rw [e] at hk'
        refine ih (.cons t v acc) ⟨sa.size, sa.defs, fun u => ?_⟩ hk'
        by_cases q : t = u
        · subst q
          rw [getS_self]
          rcases s.at_ t with q | ⟨x, q1, q2⟩
          · rw [q] at e; simp [renA] at e
          · exact .inr ⟨x, renA_den h1.1 _ _ _ e q1, q2⟩
        · rw [getS_ne _ _ q]
          exact sa.at_ u
  obtain ⟨S', k1, k2⟩ := key live .nil ⟨s.size, s.defs, fun _ => .inl rfl⟩ h3
  exact ⟨S', M', _, k1, h.ren h1.1 hn h4, k2, fun i j q => renR_at h1.1 q⟩
noncomputable def idsS : SY → List Nat
  | .prow i _ => [i]
  | .psub i _ _ _ => [i]
  | .pfix i _ _ => [i]
  | .rptr i _ _ _ => [i]
  | .kmp i => [i]
  | _ => []
mutual
noncomputable def idsA : AV → List Nat
  | .ptr i _ => [i]
  | .sl i _ _ _ => [i]
  | .map i => [i]
  | .yl i => [i]
  | .sy s => idsS s
  | .iface _ v => idsA v
  | .fn _ c => idsL c
  | .agg l => idsL l
  | .tup l => idsL l
  | _ => []
noncomputable def idsL : List AV → List Nat
  | [] => []
  | v :: r => idsA v ++ idsL r
end
noncomputable def idsO : AObj → List Nat
  | .blk _ _ _ els => idsL els.flatten
  | .map es _ => es.flatMap fun e => idsA e.1 ++ idsA e.2.1
  | _ => []
noncomputable def walkI (M : T) : Nat → List Nat → List Nat → List Nat
  | 0, _, seen => seen
  | _ + 1, [], seen => seen
  | n + 1, i :: todo, seen => match seen.any (Nat.beq i), M.get i with
    | false, some o => walkI M n (todo ++ idsO o) (seen ++ [i])
    | _, _ => walkI M n todo seen
def numd : Nat → List Nat → List (Nat × Nat)
  | _, [] => []
  | k, i :: r => (i, k) :: numd (k + 1) r
def upTo : Nat → List Nat → List Nat
  | 0, l => l
  | k + 1, l => upTo k (k :: l)
def pinsB (ps : List (Nat × Nat)) : Nat → Bool
  | 0 => true
  | k + 1 => List.any ps (fun p => Nat.beq p.1 k && Nat.beq p.2 k) && pinsB ps k
theorem pinsB_ok {ps : List (Nat × Nat)} : ∀ {k : Nat}, pinsB ps k = true → ∀ i, i < k → (i, i) ∈ ps
  | 0, _, i, hi => by omega
  | k + 1, h, i, hi => by
    simp only [pinsB, Bool.and_eq_true] at h
    rcases Nat.lt_succ_iff_lt_or_eq.1 hi with h1 | rfl
    · exact pinsB_ok h.2 i h1
    · obtain ⟨p, q1, q2⟩ := List.any_eq_true.1 h.1
      simp only [Bool.and_eq_true] at q2
      have e1 := Nat.eq_of_beq_eq_true q2.1
      have e2 := Nat.eq_of_beq_eq_true q2.2
      have : p = (i, i) := by cases p; simp_all
      rw [← this]; exact q1
noncomputable def canP (k : Nat) (live : List Nat) (S : SL) (M : T) : List (Nat × Nat) := numd 0 (walkI M 200 (upTo k (live.flatMap fun t => idsA (getS t S))) [])
noncomputable def canX (k : Nat) (live : List Nat) (S : SL) (M : T) (K : SL → T → Nat → Bool) : Bool := must (pinsB (canP k live S M) k) (renX live (canP k live S M) (canP k live S M).length S M K)
theorem canX_ok {N k : Nat} {S : SL} {a : Act} (s : SR E ρ N S a) (h : Sim E ρ G F M nx w) {live : List Nat} {K : SL → T → Nat → Bool} (hk : canX k live S M K = true) :
    ∃ S' M' nx' ρ', SR E ρ' N S' a ∧ Sim E ρ' G F M' nx' w ∧ K S' M' nx' = true ∧ ∀ i e, i < k → ρ i = some e → ρ' i = some e := by
  obtain ⟨h1, h2⟩ := must_ok hk
  obtain ⟨S', M', ρ', g1, g2, g3, g4⟩ := renX_ok s h h2
  exact ⟨S', M', _, ρ', g1, g2, g3, fun i e q1 q2 => by rw [g4 i i (pinsB_ok h1 i q1)]; exact q2⟩
end
section
variable {P : Program} {E : Env} {ρ : Ren} {G : GS} {F : List Chunk} {M : T} {nx : Nat} {w : World}
noncomputable def bornV (v : AV) (Ty sz : Nat) (α : Type) (enc : α → List PL) (M : T) (nx : Nat) (K : AV → T → Nat → Bool) : Bool := ifB (isSy v) (asSy v fun s => SY.casesOn s (fun _ _ => false) (fun _ => false) (fun _ => false) (fun _ _ _ _ _ => false) (fun _ _ _ => false) (fun i n => prowOf M i fun Ty' sz' _ l _ => must (Nat.beq Ty Ty') (must (Nat.beq sz sz') (must (prB (l = [])) (T.set fuelT M i (some (.prow Ty sz α [] enc)) fun M' => K (.sy (.prow i n)) M' nx)))) (fun _ _ _ _ => false) (fun _ _ _ _ => false) (fun _ _ _ => false) (fun _ => false)) (asSl v
  (must (Nat.blt 0 sz) (T.set fuelT M nx (some (.prow Ty sz α [] enc)) fun M' => fN (Nat.succ nx) fun q => K (.sy (.prow nx 0)) M' q))
  (fun i o n c => must (Nat.beq o 0) (blkOf M i fun g Ty' sz' els => must (Nat.beq Ty Ty') (must (Nat.beq sz sz') (ACap.casesOn c
    (fun c => must (Bool.rec true false g) (must (Nat.beq n 0) (must (Nat.beq (lenL els) c) (must (Nat.ble c 9223372036854775807)
      (T.set fuelT M i none fun M1 => T.set fuelT M1 nx (some (.prow Ty sz α [] enc)) fun M' => fN (Nat.succ nx) fun q => K (.sy (.prow nx 0)) M' q)))))
    (fun k => must (Nat.beq k 0) (must g (must (Nat.beq (lenL els) n) (toPss els fun pss => exB fun l : List α => must (prB (l.map enc = pss))
      (T.set fuelT M i none fun M1 => T.set fuelT M1 nx (some (.prow Ty sz α l enc)) fun M' => fN (Nat.succ nx) fun q => K (.sy (.prow nx l.length)) M' q))))))))))
theorem Sim.nilRow (h : Sim E ρ G F M nx w) {M' : T} {Ty sz : Nat} {α : Type} {enc : α → List PL} (hsz : 0 < sz) (h1 : M'.get nx = some (.prow Ty sz α [] enc)) (h2 : ∀ m, m ≠ nx → M'.get m = M.get m) : Sim E (ρ.set nx ⟨0, 0⟩) G F M' (nx + 1) w := by
  have h0 := h.fresh nx (Nat.le_refl _)
  have hle := Ren.le_set (ρ := ρ) ⟨0, 0⟩ h0
  obtain ⟨c, hh, hob, hinj⟩ := h.ex
  refine ⟨⟨c, hh, fun j o hj => ?_, fun j k e f o o' hj hk he hf hb1 hb2 hb => ?_⟩, h.mem, fun j hj => ?_⟩
  · by_cases q : j = nx
    · subst q
      rw [h1] at hj; cases hj
      exact ⟨_, Ren.set_self _ _ _, .inr ⟨rfl, rfl, hsz⟩⟩
    · rw [h2 j q] at hj
      obtain ⟨e, a1, ⟨q1, ob, q2, q3⟩ | q1⟩ := hob j o hj
      · exact ⟨e, hle _ _ a1, .inl ⟨q1, ob, q2, q3.mono hle⟩⟩
      · exact ⟨e, hle _ _ a1, .inr q1⟩
  · have nb : ∀ m e o, M'.get m = some o → ρ.set nx ⟨0, 0⟩ m = some e → hasB e o = true → m ≠ nx := fun m e o q1 q2 q3 q4 => by
      subst q4
      rw [h1] at q1; cases q1
      rw [Ren.set_self] at q2; cases q2
      cases q3
    have nj := nb j e o hj he hb1
    have nk := nb k f o' hk hf hb2
    rw [h2 j nj] at hj
    rw [h2 k nk] at hk
    rw [Ren.set_ne _ nj] at he
    rw [Ren.set_ne _ nk] at hf
    exact hinj j k e f o o' hj hk he hf hb1 hb2 hb
  · rw [Ren.set_ne _ (by omega)]
    exact h.fresh j (by omega)
theorem Sim.rekey (h : Sim E ρ G F M nx w) {i : Nat} {o o' : AObj} {e e' : REnt} {M' : T} (hi : M.get i = some o) (he : ρ i = some e) (hb : e'.b = e.b) (hB : hasB e o = true) (hB' : hasB e' o' = true) (hr : ∀ ob, ORel E ρ e o ob → ORel E ρ e' o' ob)
    (h1 : M'.get nx = some o') (h2 : ∀ m, m ≠ nx → m ≠ i → M'.get m = M.get m) (h3 : M'.get i = none) : Sim E (ρ.set nx e') G F M' (nx + 1) w := by
  have h0 := h.fresh nx (Nat.le_refl _)
  have hle := Ren.le_set (ρ := ρ) e' h0
  have hinx : i ≠ nx := fun q => by rw [q, h0] at he; cases he
  obtain ⟨c, hh, hob, hinj⟩ := h.ex
  refine ⟨⟨c, hh, fun j o2 hj => ?_, fun j k f1 f2 o1 o2 hj hk hf1 hf2 hb1 hb2 hbb => ?_⟩, h.mem, fun j hj => ?_⟩
  · by_cases q : j = nx
    · subst q
      rw [h1] at hj; cases hj
      obtain ⟨f, a1, ⟨q1, ob, q2, q3⟩ | ⟨q1, _⟩⟩ := hob i o hi
      · rw [he] at a1; cases a1
        exact ⟨e', Ren.set_self _ _ _, .inl ⟨hB', ob, by rw [hb]; exact q2, (hr ob q3).mono hle⟩⟩
      · rw [he] at a1; cases a1
        rw [hB] at q1; cases q1
    · have qi : j ≠ i := fun q => by subst q; rw [h3] at hj; cases hj
      rw [h2 j q qi] at hj
      obtain ⟨f, a1, ⟨q1, ob, q2, q3⟩ | q1⟩ := hob j o2 hj
      · exact ⟨f, hle _ _ a1, .inl ⟨q1, ob, q2, q3.mono hle⟩⟩
      · exact ⟨f, hle _ _ a1, .inr q1⟩
  · have old : ∀ m, m ≠ nx → ∀ o3, M'.get m = some o3 → m ≠ i ∧ M.get m = some o3 := fun m q o3 q2 => by
      have qi : m ≠ i := fun q => by subst q; rw [h3] at q2; cases q2
      exact ⟨qi, by rw [← h2 m q qi]; exact q2⟩
    by_cases q1 : j = nx
    · by_cases q2 : k = nx
      · omega
      · exfalso
        subst q1
        rw [Ren.set_self] at hf1; cases hf1
        rw [Ren.set_ne _ q2] at hf2
        obtain ⟨p1, p2⟩ := old k q2 o2 hk
        exact p1 (hinj k i f2 e o2 o p2 hi hf2 he hb2 hB (by rw [← hb, hbb]))
    · by_cases q2 : k = nx
      · exfalso
        subst q2
        rw [Ren.set_self] at hf2; cases hf2
        rw [Ren.set_ne _ q1] at hf1
        obtain ⟨p1, p2⟩ := old j q1 o1 hj
        exact p1 (hinj j i f1 e o1 o p2 hi hf1 he hb1 hB (by rw [hbb, hb]))
      · rw [Ren.set_ne _ q1] at hf1
        rw [Ren.set_ne _ q2] at hf2
        exact hinj j k f1 f2 o1 o2 (old j q1 o1 hj).2 (old k q2 o2 hk).2 hf1 hf2 hb1 hb2 hbb
  · rw [Ren.set_ne _ (by omega)]
    exact h.fresh j (by omega)
theorem Sim.reobj (h : Sim E ρ G F M nx w) {i : Nat} {o o' : AObj} (hi : M.get i = some o) (hB : ∀ e, hasB e o' = hasB e o) (hr : ∀ e ob, ρ i = some e → ORel E ρ e o ob → ORel E ρ e o' ob) (hn : NilO o → NilO o') {M' : T} (h1 : M'.get i = some o') (h2 : ∀ m, m ≠ i → M'.get m = M.get m) : Sim E ρ G F M' nx w := by
  obtain ⟨c, hh, hob, hinj⟩ := h.ex
  have old : ∀ m o2, M'.get m = some o2 → ∃ o3, M.get m = some o3 ∧ ∀ e, hasB e o2 = hasB e o3 := fun m o2 hm => by
    by_cases q1 : m = i
    · subst q1
      rw [h1] at hm; cases hm
      exact ⟨_, hi, hB⟩
    · rw [h2 m q1] at hm
      exact ⟨o2, hm, fun e => rfl⟩
  refine ⟨⟨c, hh, fun m o2 hm => ?_, fun m k e f o2 o3 hm hk he hf hb1 hb2 hb => ?_⟩, h.mem, h.fresh⟩
  · by_cases q1 : m = i
    · subst q1
      rw [h1] at hm; cases hm
      obtain ⟨e, a1, ⟨b1, ob, b2, b3⟩ | ⟨b1, b2⟩⟩ := hob m _ hi
      · exact ⟨e, a1, .inl ⟨by rw [hB]; exact b1, ob, b2, hr e ob a1 b3⟩⟩
      · exact ⟨e, a1, .inr ⟨by rw [hB]; exact b1, hn b2⟩⟩
    · rw [h2 m q1] at hm
      exact hob m o2 hm
  · obtain ⟨o4, f1, f2⟩ := old m o2 hm
    obtain ⟨o5, f3, f4⟩ := old k o3 hk
    rw [f2] at hb1
    rw [f4] at hb2
    exact hinj m k e f o4 o5 f1 f3 he hf hb1 hb2 hb
theorem bornV_ok (h : Sim E ρ G F M nx w) {v : AV} {Ty sz : Nat} {α : Type} {enc : α → List PL} {K : AV → T → Nat → Bool} (hk : bornV v Ty sz α enc M nx K = true) :
    ∃ v' M' nx' ρ', ρ.Le ρ' ∧ Sim E ρ' G F M' nx' w ∧ K v' M' nx' = true ∧ (∀ x, den E ρ v = some x → den E ρ' v' = some x) ∧ v ≠ .bad := by
  have h0 := h.fresh nx (Nat.le_refl _)
  rcases ifB_ok hk with ⟨-, g⟩ | ⟨-, hk⟩
  · replace g := asSy_ok g
    clear hk
    obtain ⟨s, rfl, g⟩ := g
    cases s <;> first | (cases g; done) | skip
    case prow i n =>
      obtain ⟨Ty', sz', α', l, enc', hi, g1⟩ := prowOf_ok g
      obtain ⟨q1, g2⟩ := must_ok g1
      obtain ⟨q2, g3⟩ := must_ok g2
      have q1 := Nat.eq_of_beq_eq_true q1
      have q2 := Nat.eq_of_beq_eq_true q2
      subst q1; subst q2
      obtain ⟨hl, g4⟩ := mustP_ok g3
      subst hl
      obtain ⟨M', g5, s1, s2⟩ := T.set_ok _ _ _ _ _ g4
      refine ⟨_, M', nx, ρ, Ren.Le.refl _, h.reobj (o' := .prow Ty sz α [] enc) hi (fun e => rfl) (fun e ob _ hr => ?_) (fun q => ⟨rfl, q.2⟩) s1 s2, g5, fun x hx => hx, by simp⟩
      obtain ⟨arr, xs, o1, o2, o3, o4, o5, o6, o7⟩ := hr
      exact ⟨arr, xs, o1, o2, fun y hy => (by simp at hy), by simpa using o4, o5, o6, o7⟩
  rcases asSl_ok hk with ⟨e, g⟩ | ⟨i, o, n, c, e, g⟩
  · obtain ⟨g1, g2⟩ := must_ok g
    rw [Nat.blt_eq] at g1
    obtain ⟨M', k1, s1, s2⟩ := T.set_ok _ _ _ _ _ g2
    rw [fN_eq] at k1
    have hle := Ren.le_set (ρ := ρ) ⟨0, 0⟩ h0
    refine ⟨_, M', nx + 1, _, hle, h.nilRow g1 s1 s2, k1, (fun x hx => ?_), (by rw [e]; simp)⟩
    rw [e] at hx
    cases hx
    simp [den, denS, Ren.set_self, hdrP]
  · obtain ⟨q2, g2⟩ := must_ok g
    have q2 := Nat.eq_of_beq_eq_true q2
    subst q2
    obtain ⟨gr, Ty', sz', els, hi, g3⟩ := blkOf_ok g2
    obtain ⟨q4, g5⟩ := must_ok g3
    obtain ⟨q5, g6⟩ := must_ok g5
    have q4 := Nat.eq_of_beq_eq_true q4
    have q5 := Nat.eq_of_beq_eq_true q5
    subst q4; subst q5
    obtain ⟨f, arr, xs, e1, e2, e3, e4, e5, e6, e7, e8, e9⟩ := h.cellsAt hi
    have hinx : i ≠ nx := fun q => by rw [q, h0] at e1; cases e1
    cases c with
    | ex c =>
      obtain ⟨q1, g7⟩ := must_ok g6
      obtain ⟨q3, g8⟩ := must_ok g7
      obtain ⟨q6, g9⟩ := must_ok g8
      obtain ⟨q7, g10⟩ := must_ok g9
      have q1 : gr = false := by cases gr; rfl; cases q1
      subst q1
      have q3 := Nat.eq_of_beq_eq_true q3
      subst q3
      have q6 : els.length = c := by rw [← lenL_eq]; exact Nat.eq_of_beq_eq_true q6
      rw [Nat.ble_eq] at q7
      obtain ⟨M1, k1, s1, s2⟩ := T.set_ok _ _ _ _ _ g10
      obtain ⟨M', k2, s3, s4⟩ := T.set_ok _ _ _ _ _ k1
      rw [fN_eq] at k2
      have hle := Ren.le_set (ρ := ρ) ⟨f.b, c + 1⟩ h0
      refine ⟨_, M', nx + 1, _, hle, h.rekey (o' := .prow Ty sz α [] enc) (e' := ⟨f.b, c + 1⟩) hi e1 rfl rfl (hasB_prow rfl) (fun ob hr => ?_) s3 (fun m a1 a2 => by rw [s4 m a1, s2 m a2]) (by rw [s4 i hinx, s1]), k2, (fun x hx => ?_), (by rw [e]; simp)⟩
      · obtain ⟨_, _, arr', xs', o1, o2, o3⟩ := hr
        simp only [cond_false] at o3
        have hl := denL_len o2
        rw [flat_len e4, ← o3, Array.length_toList] at hl
        refine ⟨arr', [], o1, e5, fun y hy => (by simp at hy), by simp [denPs], ?_, by simp, by simp, by simpa [maxLen] using q7⟩
        simp only [Nat.add_sub_cancel]
        rw [hl, q6]
      · rw [e] at hx
        simp only [den, e1, capOf] at hx
        cases hx
        simp [den, denS, Ren.set_self, hdrP]
    | rest k =>
      obtain ⟨q1, g7⟩ := must_ok g6
      have q1 := Nat.eq_of_beq_eq_true q1
      subst q1
      obtain ⟨q3, g8⟩ := must_ok g7
      subst q3
      obtain ⟨q6, g9⟩ := must_ok g8
      have q6 : els.length = n := by rw [← lenL_eq]; exact Nat.eq_of_beq_eq_true q6
      obtain ⟨p1, p2, p3⟩ := e9 rfl
      obtain ⟨pss, g10, r1, r2, r3, r4⟩ := toPss_ok e3 e4 g9
      obtain ⟨l, g11⟩ := exB_ok g10
      obtain ⟨hl, g12⟩ := mustP_ok g11
      obtain ⟨M1, k1, s1, s2⟩ := T.set_ok _ _ _ _ _ g12
      obtain ⟨M', k2, s3, s4⟩ := T.set_ok _ _ _ _ _ k1
      rw [fN_eq] at k2
      have hle := Ren.le_set (ρ := ρ) ⟨f.b, f.cap + 1⟩ h0
      have hlen : l.length = els.length := by rw [← r4, ← hl, List.length_map]
      refine ⟨_, M', nx + 1, _, hle, h.rekey (o' := .prow Ty sz α l enc) (e' := ⟨f.b, f.cap + 1⟩) hi e1 rfl rfl (hasB_prow rfl) (fun ob hr => ?_) s3 (fun m a1 a2 => by rw [s4 m a1, s2 m a2]) (by rw [s4 i hinx, s1]), k2, (fun x hx => ?_), (by rw [e]; simp)⟩
      · obtain ⟨_, _, arr', xs', o1, o2, o3⟩ := hr
        rw [e3] at o2
        cases o2
        simp only [cond_true] at o3
        obtain ⟨u1, u2, u3, u4⟩ := o3
        have hx : xs = (l.flatMap enc).map valP := by rw [r1, ← hl, List.flatMap_def]
        refine ⟨arr', xs, o1, e5, fun y hy => r3 _ (by rw [← hl]; exact List.mem_map.2 ⟨y, hy, rfl⟩), by rw [hx]; exact denPs_mk (fun p hp => r2 p (by rw [← hl, ← List.flatMap_def]; exact hp)), by simpa using u1, by rw [hlen]; exact u2, by rw [hlen]; simpa using u3, by simpa using u4⟩
      · rw [e] at hx
        simp only [den, e1, capOf] at hx
        cases hx
        simp [den, denS, Ren.set_self, hdrP, hlen, q6]
noncomputable def bornX (t Ty sz : Nat) (α : Type) (enc : α → List PL) (S : SL) (M : T) (nx : Nat) (K : SL → T → Nat → Bool) : Bool := bornV (getS t S) Ty sz α enc M nx fun v M nx => K (.cons t v S) M nx
theorem bornX_ok {N : Nat} {S : SL} {a : Act} (s : SR E ρ N S a) (h : Sim E ρ G F M nx w) {t Ty sz : Nat} {α : Type} {enc : α → List PL} {K : SL → T → Nat → Bool} (hk : bornX t Ty sz α enc S M nx K = true) :
    ∃ S' M' nx' ρ', ρ.Le ρ' ∧ SR E ρ' N S' a ∧ Sim E ρ' G F M' nx' w ∧ K S' M' nx' = true := by
  obtain ⟨v', M', nx', ρ', hl, h1, h2, h3, h4⟩ := bornV_ok h hk
  refine ⟨_, M', nx', ρ', hl, ⟨s.size, s.defs, fun u => ?_⟩, h1, h2⟩
  by_cases q : t = u
  · subst q
    rw [getS_self]
    obtain ⟨x, q1, q2⟩ := (s.at_ t).resolve_left h4
    exact .inr ⟨x, h3 x q1, q2⟩
  · rw [getS_ne _ _ q]
    exact (s.mono hl).at_ u
theorem Sim.swap (h : Sim E ρ G F M nx w) {i q r : Nat} {g : Bool} {Ty sz : Nat} {els : List (List AV)} {el : List AV} {v v' : AV} (hi : M.get i = some (.blk g Ty sz els)) (hq : els[q]? = some el) (hr : el[r]? = some v)
    (hv : ∀ x, den E ρ v = some x → den E ρ v' = some x) {M' : T} (h1 : M'.get i = some (.blk g Ty sz (els.take q ++ [el.take r ++ [v'] ++ el.drop (r + 1)] ++ els.drop (q + 1)))) (h2 : ∀ m, m ≠ i → M'.get m = M.get m) : Sim E ρ G F M' nx w := by
  obtain ⟨c, hh, hob, hinj⟩ := h.ex
  have hle1 := (List.getElem?_eq_some_iff.1 hq).1
  have hle2 := (List.getElem?_eq_some_iff.1 hr).1
  have old : ∀ m o, M'.get m = some o → ∃ o2, M.get m = some o2 ∧ ∀ e, hasB e o = hasB e o2 := fun m o hm => by
    by_cases q1 : m = i
    · subst q1
      rw [h1] at hm; cases hm
      exact ⟨_, hi, fun e => rfl⟩
    · rw [h2 m q1] at hm
      exact ⟨o, hm, fun e => rfl⟩
  refine ⟨⟨c, hh, fun m o hm => ?_, fun m k e f o o' hm hk he hf hb1 hb2 hb => ?_⟩, h.mem, h.fresh⟩
  · by_cases q1 : m = i
    · subst q1
      rw [h1] at hm; cases hm
      obtain ⟨e, a1, ⟨b1, ob, b2, b3⟩ | ⟨b1, b2⟩⟩ := hob m _ hi
      · refine ⟨e, a1, .inl ⟨rfl, ob, b2, ?_⟩⟩
        obtain ⟨c1, c2, arr, xs, c3, c4, c5⟩ := b3
        have hel : ∀ l ∈ els.take q ++ [el.take r ++ [v'] ++ el.drop (r + 1)] ++ els.drop (q + 1), l.length = sz := by
          intro l hl
          simp only [List.mem_append, List.mem_singleton] at hl
          have := c1 el (List.mem_of_getElem? hq)
          rcases hl with (hl | rfl) | hl
          · exact c1 l (List.mem_of_mem_take hl)
          · simp only [List.length_append, List.length_take, List.length_drop, List.length_singleton]; omega
          · exact c1 l (List.mem_of_mem_drop hl)
        have hlen : (els.take q ++ [el.take r ++ [v'] ++ el.drop (r + 1)] ++ els.drop (q + 1)).length = els.length := by
          simp only [List.length_append, List.length_take, List.length_drop, List.length_singleton]; omega
        have e1 : els = els.take q ++ [el] ++ els.drop (q + 1) := by
          rw [List.append_assoc, List.singleton_append]
          have := List.take_append_drop q els
          rw [List.drop_eq_getElem_cons hle1] at this
          rw [← (List.getElem?_eq_some_iff.1 hq).2]; exact this.symm
        have e2 : el = el.take r ++ [v] ++ el.drop (r + 1) := by
          rw [List.append_assoc, List.singleton_append]
          have := List.take_append_drop r el
          rw [List.drop_eq_getElem_cons hle2] at this
          rw [← (List.getElem?_eq_some_iff.1 hr).2]; exact this.symm
        have hd : denL E ρ (els.take q ++ [el.take r ++ [v'] ++ el.drop (r + 1)] ++ els.drop (q + 1)).flatten = some xs := by
          rw [e1] at c4
          simp only [List.flatten_append, List.flatten_cons, List.flatten_nil, List.append_nil] at c4 ⊢
          obtain ⟨y1, z1, d1, d2, rfl⟩ := denL_split c4
          obtain ⟨y2, z2, d3, d4, rfl⟩ := denL_split d1
          rw [e2] at d4
          obtain ⟨y3, z3, d5, d6, rfl⟩ := denL_split d4
          obtain ⟨y4, z4, d7, d8, rfl⟩ := denL_split d5
          obtain ⟨x, _, d9, d10, rfl⟩ := denL_cons d8
          refine denL_app (denL_app d3 (denL_app (denL_app d7 ?_) d6)) d2
          exact denL_mk (hv x d9) d10
        refine ⟨hel, c2, arr, xs, c3, hd, ?_⟩
        rw [hlen]; exact c5
      · cases b1
    · rw [h2 m q1] at hm
      exact hob m o hm
  · obtain ⟨o2, f1, f2⟩ := old m o hm
    obtain ⟨o3, f3, f4⟩ := old k o' hk
    rw [f2] at hb1
    rw [f4] at hb2
    exact hinj m k e f o2 o3 f1 f3 he hf hb1 hb2 hb
noncomputable def cellX (i q r Ty sz : Nat) (α : Type) (enc : α → List PL) (M : T) (nx : Nat) (K : T → Nat → Bool) : Bool :=
  blkOf M i fun _ _ _ els => atO (nth els q) fun el => atO (nth el r) fun v => ifB (isSy v) (K M nx) (bornV v Ty sz α enc M nx fun v' M' nx' => blkOf M' i fun g T2 s2 els => atO (nth els q) fun el' => atO (nth el' r) fun v2 => must (prB (v2 = v))
    (upd el' r [v'] fun e2 => upd els q [e2] fun els2 => T.set fuelT M' i (some (.blk g T2 s2 els2)) fun M2 => K M2 nx'))
theorem cellX_ok (h : Sim E ρ G F M nx w) {i q r Ty sz : Nat} {α : Type} {enc : α → List PL} {K : T → Nat → Bool} (hk : cellX i q r Ty sz α enc M nx K = true) :
    ∃ M' nx' ρ', ρ.Le ρ' ∧ Sim E ρ' G F M' nx' w ∧ K M' nx' = true := by
  obtain ⟨g, T1, s1, els, h1, hk⟩ := blkOf_ok hk
  obtain ⟨el, h2, hk⟩ := atO_ok hk
  obtain ⟨v, h3, hk⟩ := atO_ok hk
  rcases ifB_ok hk with ⟨-, hk⟩ | ⟨-, hk⟩
  · exact ⟨M, nx, ρ, Ren.Le.refl _, h, hk⟩
  obtain ⟨v', M', nx', ρ', le, sm, hk, hv, hb⟩ := bornV_ok h hk
  obtain ⟨g, T2, s2, els2, h4, hk⟩ := blkOf_ok hk
  obtain ⟨el2, h5, hk⟩ := atO_ok hk
  obtain ⟨v2, h6, hk⟩ := atO_ok hk
  obtain ⟨hvv, hk2⟩ := mustP_ok hk
  obtain ⟨hk3, l1⟩ := upd_ok hk2
  obtain ⟨hk4, l2⟩ := upd_ok hk3
  obtain ⟨M2, hk5, g1, g2⟩ := T.set_ok _ _ _ _ _ hk4
  clear hk hk2 hk3 hk4
  subst hvv
  rw [nth_eq] at h2 h3 h5 h6
  refine ⟨M2, nx', ρ', le, sm.swap h4 h5 h6 (fun x hx => ?_) g1 g2, hk5⟩
  -- the cell's value is known already in the old numbers
  obtain ⟨e, arr, xs, e1, e2, e3, e4, e5, e6, e7, e8, e9⟩ := h.cellsAt h1
  have hmem : v2 ∈ els.flatten := List.mem_flatten.2 ⟨el, List.mem_of_getElem? h2, List.mem_of_getElem? h3⟩
  obtain ⟨k, hk2⟩ := List.mem_iff_getElem?.1 hmem
  obtain ⟨y, y1, _⟩ := denL_at e3 hk2
  have := den_mono le v2 y y1
  rw [this] at hx
  cases hx
  exact hv _ y1
noncomputable def frzcX (i q r : Nat) (M : T) (K : T → Bool) : Bool :=
  blkOf M i fun _ _ _ els => atO (nth els q) fun el => atO (nth el r) fun v => frz1 v M fun u M' => blkOf M' i fun g T2 s2 els => atO (nth els q) fun el' => atO (nth el' r) fun v2 => must (prB (v2 = v))
    (upd el' r [u] fun e2 => upd els q [e2] fun els2 => T.set fuelT M' i (some (.blk g T2 s2 els2)) K)
theorem frzcX_ok (h : Sim E ρ G F M nx w) {i q r : Nat} {K : T → Bool} (hk : frzcX i q r M K = true) :
    ∃ E' M', EEq ρ E E' ∧ E'.at_ = E.at_ ∧ Sim E' ρ G F M' nx w ∧ K M' = true := by
  obtain ⟨g, T1, s1, els, h1, hk⟩ := blkOf_ok hk
  obtain ⟨el, h2, hk⟩ := atO_ok hk
  obtain ⟨v, h3, hk⟩ := atO_ok hk
  rw [nth_eq] at h2 h3
  obtain ⟨e, arr, xs, e1, e2, e3, e4, e5, e6, e7, e8, e9⟩ := h.cellsAt h1
  have hmem : v ∈ els.flatten := List.mem_flatten.2 ⟨el, List.mem_of_getElem? h2, List.mem_of_getElem? h3⟩
  obtain ⟨k, hk2⟩ := List.mem_iff_getElem?.1 hmem
  obtain ⟨y, y1, _⟩ := denL_at e3 hk2
  obtain ⟨E1, M1, u, f1, f2, f3, f4, hk3⟩ := frz1_ok h y1 hk
  obtain ⟨g, T2, s2, els2, h4, hk4⟩ := blkOf_ok hk3
  obtain ⟨el2, h5, hk5⟩ := atO_ok hk4
  obtain ⟨v2, h6, hk6⟩ := atO_ok hk5
  obtain ⟨hvv, hk7⟩ := mustP_ok hk6
  obtain ⟨hk8, l1⟩ := upd_ok hk7
  obtain ⟨hk9, l2⟩ := upd_ok hk8
  obtain ⟨M2, hk10, g1, g2⟩ := T.set_ok _ _ _ _ _ hk9
  subst hvv
  rw [nth_eq] at h5 h6
  refine ⟨E1, M2, f1, f2, f3.swap h4 h5 h6 (fun x hx => ?_) g1 g2, hk10⟩
  rw [den_env f1 _ _ y1] at hx
  cases hx
  exact den_mono (ρ := fun _ => none) (fun _ _ q => by cases q) u y f4
noncomputable def frc0 (v : AV) (K : AV → Bool) : Bool := AV.casesOn v (K .bad) (fun k z => K (.int k z)) (fun b => K (.bool b)) (fun l => K (.str l)) (fun i o => K (.ptr i o)) (fun i o n c => K (.sl i o n c)) (fun i => K (.map i)) (K .nilP) (K .nilS) (K .nilM) (K .nilF) (K .nilI) (fun t v => K (.iface t v)) (fun f c => K (.fn f c)) (fun i => K (.yl i)) (fun l => K (.agg l)) (fun l => K (.tup l)) (fun i => K (.any i)) (fun s => K (.sy s))
theorem frc0_ok {v : AV} {K : AV → Bool} (h : frc0 v K = true) : K v = true := by
  cases v <;> exact h
noncomputable def upV (v : AV) : AV := AV.casesOn v .bad (fun k z => .sy (.int k z)) (fun b => .sy (.bool (b = true))) (fun l => .sy (.str (l.map UInt8.ofNat))) (fun i o => .ptr i o) (fun i o n c => .sl i o n c) (fun i => .map i) .nilP .nilS .nilM .nilF .nilI (fun t v => .iface t v) (fun f c => .fn f c) (fun i => .yl i) (fun l => .agg l) (fun l => .tup l) (fun i => .any i) (fun s => .sy s)
theorem upV_den {v : AV} {x : Value} (h : den E ρ v = some x) : den E ρ (upV v) = some x := by
  cases v <;> first | exact h | skip
  case bool b =>
    simp only [den] at h
    cases h
    show denS E ρ (.bool (b = true)) = _
    simp only [denS, prB_bool]
noncomputable def upX (t : Nat) (S : SL) (K : SL → Bool) : Bool := frc0 (upV (getS t S)) fun v => K (.cons t v S)
theorem upX_ok {N : Nat} {S : SL} {a : Act} (s : SR E ρ N S a) {t : Nat} {K : SL → Bool} (hk : upX t S K = true) : ∃ S', SR E ρ N S' a ∧ K S' = true := by
  have hk := frc0_ok hk
  refine ⟨_, ⟨s.size, s.defs, fun u => ?_⟩, hk⟩
  by_cases q : t = u
  · subst q
    rw [getS_self]
    rcases s.at_ t with q | ⟨x, q1, q2⟩
    · rw [q]; exact .inl rfl
    · exact .inr ⟨x, upV_den q1, q2⟩
  · rw [getS_ne _ _ q]
    exact s.at_ u
noncomputable def hasC (M : T) (i q r : Nat) : Bool := Option.casesOn (M.get i) false fun ob => AObj.casesOn ob (fun _ _ _ els => Option.casesOn (nth els q) false fun el => Option.casesOn (nth el r) false fun _ => true) (fun _ _ => false) (fun _ _ _ _ => false) false (fun _ _ _ _ _ => false) (fun _ _ _ _ _ _ _ => false)
noncomputable def upcX (i q r : Nat) (M : T) (K : T → Bool) : Bool := ifB (hasC M i q r) (blkOf M i fun g Ty sz els => atO (nth els q) fun el => atO (nth el r) fun v => frc0 (upV v) fun v' => upd el r [v'] fun e2 => upd els q [e2] fun els2 => T.set fuelT M i (some (.blk g Ty sz els2)) K) (K M)
theorem upcX_ok (h : Sim E ρ G F M nx w) {i q r : Nat} {K : T → Bool} (hk : upcX i q r M K = true) : ∃ M', Sim E ρ G F M' nx w ∧ K M' = true := by
  rcases ifB_ok hk with ⟨-, hk⟩ | ⟨-, hk⟩
  case inr => exact ⟨M, h, hk⟩
  obtain ⟨g, Ty, sz, els, h1, hk⟩ := blkOf_ok hk
  obtain ⟨el, h2, hk⟩ := atO_ok hk
  obtain ⟨v, h3, hk⟩ := atO_ok hk
  have hk := frc0_ok hk
  obtain ⟨hk, l1⟩ := upd_ok hk
  obtain ⟨hk, l2⟩ := upd_ok hk
  obtain ⟨M2, hk, g1, g2⟩ := T.set_ok _ _ _ _ _ hk
  rw [nth_eq] at h2 h3
  exact ⟨M2, h.swap h1 h2 h3 (fun x hx => upV_den hx) g1 g2, hk⟩
theorem Sim.swapM (h : Sim E ρ G F M nx w) {i : Nat} {es es' : List (AV × AV × Nat)} {cl : Nat} (hi : M.get i = some (.map es cl)) (hv : ∀ ms, denE E ρ es = some ms → denE E ρ es' = some ms) {M' : T} (h1 : M'.get i = some (.map es' cl)) (h2 : ∀ m, m ≠ i → M'.get m = M.get m) : Sim E ρ G F M' nx w := by
  obtain ⟨c, hh, hob, hinj⟩ := h.ex
  have old : ∀ m o, M'.get m = some o → ∃ o2, M.get m = some o2 ∧ ∀ e, hasB e o = hasB e o2 := fun m o hm => by
    by_cases q1 : m = i
    · subst q1
      rw [h1] at hm; cases hm
      exact ⟨_, hi, fun e => rfl⟩
    · rw [h2 m q1] at hm
      exact ⟨o, hm, fun e => rfl⟩
  refine ⟨⟨c, hh, fun m o hm => ?_, fun m k e f o o' hm hk he hf hb1 hb2 hb => ?_⟩, h.mem, h.fresh⟩
  · by_cases q1 : m = i
    · subst q1
      rw [h1] at hm; cases hm
      obtain ⟨e, a1, ⟨b1, ob, b2, b3⟩ | ⟨b1, b2⟩⟩ := hob m _ hi
      · obtain ⟨ms, c1, c2⟩ := b3
        exact ⟨e, a1, .inl ⟨rfl, ob, b2, ms, hv ms c1, c2⟩⟩
      · cases b1
    · rw [h2 m q1] at hm
      exact hob m o hm
  · obtain ⟨o2, f1, f2⟩ := old m o hm
    obtain ⟨o3, f3, f4⟩ := old k o' hk
    rw [f2] at hb1
    rw [f4] at hb2
    exact hinj m k e f o2 o3 f1 f3 he hf hb1 hb2 hb
noncomputable def upE (es : List (AV × AV × Nat)) (K : List (AV × AV × Nat) → Bool) : Bool := List.rec (motive := fun _ => (List (AV × AV × Nat) → Bool) → Bool) (fun K => K []) (fun e _ ih K => frc0 (upV e.2.1) fun v => ih fun l => K ((e.1, v, e.2.2) :: l)) es K
theorem upE_ok : ∀ {es : List (AV × AV × Nat)} {K : List (AV × AV × Nat) → Bool}, upE es K = true → ∃ es', K es' = true ∧ ∀ ms, denE E ρ es = some ms → denE E ρ es' = some ms
  | [], K, h => ⟨[], h, fun ms q => q⟩
  | (k, v, b) :: es, K, h => by
    have h1 := frc0_ok (show frc0 (upV v) (fun v => upE es fun l => K ((k, v, b) :: l)) = true from h)
    obtain ⟨es', h2, h3⟩ := upE_ok h1
    refine ⟨_, h2, fun ms q => ?_⟩
    obtain ⟨x, y, ms', q1, q2, q3, rfl⟩ := denE_cons q
    simp only [denE, q1, upV_den q2, h3 _ q3]
noncomputable def upmX (i : Nat) (M : T) (K : T → Bool) : Bool := mapOf M i fun es cl => upE es fun es' => T.set fuelT M i (some (.map es' cl)) K
theorem upmX_ok (h : Sim E ρ G F M nx w) {i : Nat} {K : T → Bool} (hk : upmX i M K = true) : ∃ M', Sim E ρ G F M' nx w ∧ K M' = true := by
  obtain ⟨es, cl, h1, hk⟩ := mapOf_ok hk
  obtain ⟨es', hk, h2⟩ := upE_ok (E := E) (ρ := ρ) hk
  obtain ⟨M2, hk, g1, g2⟩ := T.set_ok _ _ _ _ _ hk
  exact ⟨M2, h.swapM h1 h2 g1 g2, hk⟩
theorem Sim.swapK (h : Sim E ρ G F M nx w) {i : Nat} {es : List (AV × AV × Nat)} {cl : Nat} {ak av : Bool} {α : Type} {l : List α} {kf vf : α → List PL} (hi : M.get i = some (.map es cl)) (hs : es.map (fun e => (e.1, e.2.1)) = l.map (fun x => (keyA ak (kf x), keyA av (vf x)))) {M' : T} (h1 : M'.get i = some (.kmap true ak av α l kf vf)) (h2 : ∀ m, m ≠ i → M'.get m = M.get m) : Sim E ρ G F M' nx w := by
  obtain ⟨c, hh, hob, hinj⟩ := h.ex
  have old : ∀ m o, M'.get m = some o → ∃ o2, M.get m = some o2 ∧ ∀ e, hasB e o = hasB e o2 := fun m o hm => by
    by_cases q1 : m = i
    · subst q1
      rw [h1] at hm; cases hm
      exact ⟨_, hi, fun e => rfl⟩
    · rw [h2 m q1] at hm
      exact ⟨o, hm, fun e => rfl⟩
  refine ⟨⟨c, hh, fun m o hm => ?_, fun m k e f o o' hm hk he hf hb1 hb2 hb => ?_⟩, h.mem, h.fresh⟩
  · by_cases q1 : m = i
    · subst q1
      rw [h1] at hm; cases hm
      obtain ⟨e, a1, ⟨b1, ob, b2, b3⟩ | ⟨b1, b2⟩⟩ := hob m _ hi
      · obtain ⟨ms, c1, c2⟩ := b3
        exact ⟨e, a1, .inl ⟨rfl, ob, b2, es, cl, ms, hs, c1, c2⟩⟩
      · cases b1
    · rw [h2 m q1] at hm
      exact hob m o hm
  · obtain ⟨o2, f1, f2⟩ := old m o hm
    obtain ⟨o3, f3, f4⟩ := old k o' hk
    rw [f2] at hb1
    rw [f4] at hb2
    exact hinj m k e f o2 o3 f1 f3 he hf hb1 hb2 hb
noncomputable def kbX (i : Nat) (ak av : Bool) (α : Type) (kf vf : α → List PL) (M : T) (K : T → Bool) : Bool := ifB (isK M i) (K M) (mapOf M i fun es _ => exB fun l : List α => must (prB (es.map (fun e => (e.1, e.2.1)) = l.map (fun x => (keyA ak (kf x), keyA av (vf x))))) (T.set fuelT M i (some (.kmap true ak av α l kf vf)) K))
theorem kbX_ok (h : Sim E ρ G F M nx w) {i : Nat} {ak av : Bool} {α : Type} {kf vf : α → List PL} {K : T → Bool} (hk : kbX i ak av α kf vf M K = true) : ∃ M', Sim E ρ G F M' nx w ∧ K M' = true := by
  rcases ifB_ok hk with ⟨_, hk⟩ | ⟨_, hk⟩
  · exact ⟨M, h, hk⟩
  obtain ⟨es, cl, h1, hk⟩ := mapOf_ok hk
  obtain ⟨l, hk⟩ := exB_ok hk
  obtain ⟨hs, hk⟩ := mustP_ok hk
  obtain ⟨M2, hk, g1, g2⟩ := T.set_ok _ _ _ _ _ hk
  exact ⟨M2, h.swapK h1 hs g1 g2, hk⟩
theorem Sim.reobjE (h : Sim E ρ G F M nx w) {i : Nat} {o o' : AObj} {e0 : REnt} (hi : M.get i = some o) (he0 : ρ i = some e0) (hB : hasB e0 o = true) (hB' : hasB e0 o' = true) (hr : ∀ ob, ORel E ρ e0 o ob → ORel E ρ e0 o' ob) {M' : T} (h1 : M'.get i = some o') (h2 : ∀ m, m ≠ i → M'.get m = M.get m) : Sim E ρ G F M' nx w := by
  obtain ⟨c, hh, hob, hinj⟩ := h.ex
  have old : ∀ m o2 e, M'.get m = some o2 → ρ m = some e → ∃ o3, M.get m = some o3 ∧ hasB e o2 = hasB e o3 := fun m o2 e hm he => by
    by_cases q1 : m = i
    · subst q1
      rw [h1] at hm; cases hm
      rw [he0] at he; cases he
      exact ⟨_, hi, by rw [hB, hB']⟩
    · rw [h2 m q1] at hm
      exact ⟨o2, hm, rfl⟩
  refine ⟨⟨c, hh, fun m o2 hm => ?_, fun m k e f o2 o3 hm hk he hf hb1 hb2 hb => ?_⟩, h.mem, h.fresh⟩
  · by_cases q1 : m = i
    · subst q1
      rw [h1] at hm; cases hm
      obtain ⟨e, a1, ⟨b1, ob, b2, b3⟩ | ⟨b1, b2⟩⟩ := hob m _ hi
      · rw [he0] at a1; cases a1
        exact ⟨_, he0, .inl ⟨hB', ob, b2, hr ob b3⟩⟩
      · rw [he0] at a1; cases a1
        rw [hB] at b1; cases b1
    · rw [h2 m q1] at hm
      exact hob m o2 hm
  · obtain ⟨o4, f1, f2⟩ := old m o2 e hm he
    obtain ⟨o5, f3, f4⟩ := old k o3 f hk hf
    rw [f2] at hb1
    rw [f4] at hb2
    exact hinj m k e f o4 o5 f1 f3 he hf hb1 hb2 hb
theorem Sim.nilObj (h : Sim E ρ G F M nx w) {M' : T} {o : AObj} (hB : hasB ⟨0, 0⟩ o = false) (hN : NilO o) (h1 : M'.get nx = some o) (h2 : ∀ m, m ≠ nx → M'.get m = M.get m) : Sim E (ρ.set nx ⟨0, 0⟩) G F M' (nx + 1) w := by
  have h0 := h.fresh nx (Nat.le_refl _)
  have hle := Ren.le_set (ρ := ρ) ⟨0, 0⟩ h0
  obtain ⟨c, hh, hob, hinj⟩ := h.ex
  refine ⟨⟨c, hh, fun j o hj => ?_, fun j k e f o o' hj hk he hf hb1 hb2 hb => ?_⟩, h.mem, fun j hj => ?_⟩
  · by_cases q : j = nx
    · subst q
      rw [h1] at hj; cases hj
      exact ⟨_, Ren.set_self _ _ _, .inr ⟨hB, hN⟩⟩
    · rw [h2 j q] at hj
      obtain ⟨e, a1, ⟨q1, ob, q2, q3⟩ | q1⟩ := hob j o hj
      · exact ⟨e, hle _ _ a1, .inl ⟨q1, ob, q2, q3.mono hle⟩⟩
      · exact ⟨e, hle _ _ a1, .inr q1⟩
  · have nb : ∀ m e o, M'.get m = some o → ρ.set nx ⟨0, 0⟩ m = some e → hasB e o = true → m ≠ nx := fun m e o q1 q2 q3 q4 => by
      subst q4
      rw [h1] at q1; cases q1
      rw [Ren.set_self] at q2; cases q2
      rw [hB] at q3; cases q3
    have nj := nb j e o hj he hb1
    have nk := nb k f o' hk hf hb2
    rw [h2 j nj] at hj
    rw [h2 k nk] at hk
    rw [Ren.set_ne _ nj] at he
    rw [Ren.set_ne _ nk] at hf
    exact hinj j k e f o o' hj hk he hf hb1 hb2 hb
  · rw [Ren.set_ne _ (by omega)]
    exact h.fresh j (by omega)
noncomputable def kforkX (i q r : Nat) (M : T) (K : T → Bool) : Bool := blkOf M i fun g Ty sz els => atO (nth els q) fun el => atO (nth el r) fun v => asKmp v (fun j => kmapOf M j fun sure ak av α l kf vf => ifB sure false
    (must (ifB (prB (l = [])) (upd el r [.nilM] fun e2 => upd els q [e2] fun els2 => T.set fuelT M i (some (.blk g Ty sz els2)) K) true)
      (T.set fuelT M j (some (.kmap true ak av α l kf vf)) fun M1 => blkOf M1 i fun g Ty sz els => atO (nth els q) fun el => atO (nth el r) fun v2 => must (prB (v2 = v)) (upd el r [.map j] fun e2 => upd els q [e2] fun els2 => T.set fuelT M1 i (some (.blk g Ty sz els2)) K)))) (K M)
theorem kforkX_ok (h : Sim E ρ G F M nx w) {i q r : Nat} {K : T → Bool} (hk : kforkX i q r M K = true) : ∃ M', Sim E ρ G F M' nx w ∧ K M' = true := by
  obtain ⟨g, Ty, sz, els, h1, hk⟩ := blkOf_ok hk
  obtain ⟨el, h2, hk⟩ := atO_ok hk
  obtain ⟨v, h3, hk⟩ := atO_ok hk
  rw [nth_eq] at h2 h3
  rcases asKmp_ok hk with ⟨j, rfl, hk⟩ | hk
  case inr => exact ⟨M, h, hk⟩
  obtain ⟨sure, ak, av, α, l, kf, vf, hj, hk⟩ := kmapOf_ok hk
  rcases ifB_ok hk with ⟨_, hk⟩ | ⟨hs, hk⟩
  · cases hk
  subst hs
  obtain ⟨k1, k2⟩ := must_ok hk
  obtain ⟨e, h4, q5⟩ := h.objP hj
  rcases q5 with ⟨b1, ob, b2, b3⟩ | ⟨b1, b2⟩
  · have b1' : (false || !Nat.beq e.cap 0) = true := b1
    have b4 : Nat.beq e.cap 0 = false := by simpa using b1'
    obtain ⟨M1, k3, s1, s2⟩ := T.set_ok _ _ _ _ _ k2
    obtain ⟨g, Ty, sz, els, h1, hk⟩ := blkOf_ok k3
    obtain ⟨el, h2, hk⟩ := atO_ok hk
    obtain ⟨v2, h3, hk⟩ := atO_ok hk
    rw [nth_eq] at h2 h3
    obtain ⟨hvv, hk3⟩ := mustP_ok hk
    subst hvv
    obtain ⟨hk4, _⟩ := upd_ok hk3
    obtain ⟨hk5, _⟩ := upd_ok hk4
    obtain ⟨M2, hk6, g1, g2⟩ := T.set_ok _ _ _ _ _ hk5
    have hS : Sim E ρ G F M1 nx w := h.reobjE (o' := .kmap true ak av α l kf vf) hj h4 b1 rfl (fun ob q => q) s1 s2
    refine ⟨M2, hS.swap h1 h2 h3 (fun x hx => ?_) g1 g2, hk6⟩
    simp only [den, denS, h4, b4, cond_false] at hx ⊢
    exact hx
  · have b1' : (false || !Nat.beq e.cap 0) = false := b1
    have b4 : Nat.beq e.cap 0 = true := by simpa using b1'
    rw [prB_true.2 b2.2] at k1
    obtain ⟨hk, _⟩ := upd_ok (show (upd el r [.nilM] fun e2 => upd els q [e2] fun els2 => T.set fuelT M i (some (.blk g Ty sz els2)) K) = true from k1)
    obtain ⟨hk, _⟩ := upd_ok hk
    obtain ⟨M2, hk, g1, g2⟩ := T.set_ok _ _ _ _ _ hk
    refine ⟨M2, h.swap h1 h2 h3 (fun x hx => ?_) g1 g2, hk⟩
    simp only [den, denS, h4, b4, cond_true] at hx ⊢
    exact hx
noncomputable def joinV (v : AV) (ak av : Bool) (α : Type) (kf vf : α → List PL) (M : T) (nx : Nat) (K : AV → T → Nat → Bool) : Bool := asMap v (T.set fuelT M nx (some (.kmap false ak av α [] kf vf)) fun M' => fN (Nat.succ nx) fun q => K (.sy (.kmp nx)) M' q)
  (fun j => kbX j ak av α kf vf M fun M1 => kmapOf M1 j fun sure ak av α l kf vf => must sure (T.set fuelT M1 j none fun M2 => T.set fuelT M2 nx (some (.kmap false ak av α l kf vf)) fun M' => fN (Nat.succ nx) fun q => K (.sy (.kmp nx)) M' q))
theorem joinV_ok (h : Sim E ρ G F M nx w) {v : AV} {ak av : Bool} {α : Type} {kf vf : α → List PL} {K : AV → T → Nat → Bool} (hk : joinV v ak av α kf vf M nx K = true) :
    ∃ v' M' nx' ρ', ρ.Le ρ' ∧ Sim E ρ' G F M' nx' w ∧ K v' M' nx' = true ∧ (∀ x, den E ρ v = some x → den E ρ' v' = some x) := by
  rcases asMap_ok hk with ⟨rfl, g⟩ | ⟨j, rfl, g⟩
  · obtain ⟨M', k1, s1, s2⟩ := T.set_ok _ _ _ _ _ g
    rw [fN_eq] at k1
    refine ⟨_, M', nx + 1, _, Ren.le_set _ (h.fresh nx (Nat.le_refl _)), h.nilObj (o := .kmap false ak av α [] kf vf) rfl ⟨rfl, rfl⟩ s1 s2, k1, fun x hx => ?_⟩
    cases hx
    simp [den, denS, Ren.set_self]
  · obtain ⟨M1, hS, k1⟩ := kbX_ok h g
    have k1 := kmapOf_ok k1
    obtain ⟨sure, ak2, av2, α2, l2, kf2, vf2, hj, k2⟩ := k1
    obtain ⟨hs, k3⟩ := must_ok k2
    subst hs
    obtain ⟨e, ob, h4, _, _⟩ := hS.obj hj
    obtain ⟨M2, k4, s1, s2⟩ := T.set_ok _ _ _ _ _ k3
    obtain ⟨M3, k5, s3, s4⟩ := T.set_ok _ _ _ _ _ k4
    rw [fN_eq] at k5
    have h0 := hS.fresh nx (Nat.le_refl _)
    have hne : j ≠ nx := fun q => by rw [q, h0] at h4; cases h4
    refine ⟨_, M3, nx + 1, _, Ren.le_set (ρ := ρ) ⟨e.b, 1⟩ h0, hS.rekey (o' := .kmap false ak2 av2 α2 l2 kf2 vf2) (e' := ⟨e.b, 1⟩) hj h4 rfl rfl rfl (fun ob q => q) s3 (fun m a1 a2 => by rw [s4 m a1, s2 m a2]) (by rw [s4 j hne, s1]), k5, fun x hx => ?_⟩
    simp only [den, h4] at hx
    cases hx
    simp only [den, denS, Ren.set_self]
    rfl
noncomputable def kjoinX (i q r : Nat) (ak av : Bool) (α : Type) (kf vf : α → List PL) (M : T) (nx : Nat) (K : T → Nat → Bool) : Bool :=
  blkOf M i fun _ _ _ els => atO (nth els q) fun el => atO (nth el r) fun v => ifB (isSy v) (K M nx) (joinV v ak av α kf vf M nx fun v' M' nx' => blkOf M' i fun g T2 s2 els => atO (nth els q) fun el' => atO (nth el' r) fun v2 => must (prB (v2 = v))
    (upd el' r [v'] fun e2 => upd els q [e2] fun els2 => T.set fuelT M' i (some (.blk g T2 s2 els2)) fun M2 => K M2 nx'))
theorem kjoinX_ok (h : Sim E ρ G F M nx w) {i q r : Nat} {ak av : Bool} {α : Type} {kf vf : α → List PL} {K : T → Nat → Bool} (hk : kjoinX i q r ak av α kf vf M nx K = true) :
    ∃ M' nx' ρ', ρ.Le ρ' ∧ Sim E ρ' G F M' nx' w ∧ K M' nx' = true := by
  obtain ⟨g, T1, s1, els, h1, hk⟩ := blkOf_ok hk
  obtain ⟨el, h2, hk⟩ := atO_ok hk
  obtain ⟨v, h3, hk⟩ := atO_ok hk
  rcases ifB_ok hk with ⟨-, hk⟩ | ⟨-, hk⟩
  · exact ⟨M, nx, ρ, Ren.Le.refl _, h, hk⟩
  obtain ⟨v', M', nx', ρ', le, sm, hk, hv⟩ := joinV_ok h hk
  obtain ⟨g, T2, s2, els2, h4, hk⟩ := blkOf_ok hk
  obtain ⟨el2, h5, hk⟩ := atO_ok hk
  obtain ⟨v2, h6, hk⟩ := atO_ok hk
  obtain ⟨hvv, hk2⟩ := mustP_ok hk
  obtain ⟨hk3, l1⟩ := upd_ok hk2
  obtain ⟨hk4, l2⟩ := upd_ok hk3
  obtain ⟨M2, hk5, g1, g2⟩ := T.set_ok _ _ _ _ _ hk4
  clear hk hk2 hk3 hk4
  subst hvv
  rw [nth_eq] at h2 h3 h5 h6
  refine ⟨M2, nx', ρ', le, sm.swap h4 h5 h6 (fun x hx => ?_) g1 g2, hk5⟩
  obtain ⟨e, arr, xs, e1, e2, e3, e4, e5, e6, e7, e8, e9⟩ := h.cellsAt h1
  have hmem : v2 ∈ els.flatten := List.mem_flatten.2 ⟨el, List.mem_of_getElem? h2, List.mem_of_getElem? h3⟩
  obtain ⟨k, hk2⟩ := List.mem_iff_getElem?.1 hmem
  obtain ⟨y, y1, _⟩ := denL_at e3 hk2
  have := den_mono le v2 y y1
  rw [this] at hx
  cases hx
  exact hv _ y1
noncomputable def fixX (t n : Nat) (S : SL) (K : SL → Bool) : Bool := AV.casesOn (getS t S) false (fun _ _ => K S) (fun _ => false) (fun _ => false) (fun _ _ => false) (fun _ _ _ _ => false) (fun _ => false) false false false false false (fun _ _ => false) (fun _ _ => false) (fun _ => false) (fun _ => false) (fun _ => false) (fun _ => false)
  (fun s => SY.casesOn s (fun k z => fork n z (fun j => fN j fun j => K (.cons t (.int k (Int.ofNat j)) S)) 0) (fun _ => false) (fun _ => false) (fun _ _ _ _ _ => false) (fun _ _ _ => false) (fun _ _ => false) (fun _ _ _ _ => false) (fun _ _ _ _ => false) (fun _ _ _ => false) (fun _ => false))
theorem fixX_ok {N : Nat} {S : SL} {a : Act} (s : SR E ρ N S a) {t n : Nat} {K : SL → Bool} (hk : fixX t n S K = true) : ∃ S', SR E ρ N S' a ∧ K S' = true := by
  unfold fixX at hk
  generalize e : getS t S = v at hk
  cases v <;> first | (cases hk; done) | exact ⟨S, s, hk⟩ | skip
  case sy s' =>
    cases s' <;> first | (cases hk; done) | skip
    case int k z =>
      obtain ⟨j, h1, _, h2⟩ := fork_ok (show fork n z (fun j => fN j fun j => K (.cons t (.int k (Int.ofNat j)) S)) 0 = true from hk)
      rw [fN_eq] at h2
      refine ⟨_, ⟨s.size, s.defs, fun u => ?_⟩, h2⟩
      by_cases q : t = u
      · subst q
        rw [getS_self]
        rcases s.at_ t with q | ⟨x, q1, q2⟩
        · rw [e] at q; cases q
        · refine .inr ⟨x, ?_, q2⟩
          rw [e] at q1
          rw [← q1, h1]
          rfl
      · rw [getS_ne _ _ q]
        exact s.at_ u
noncomputable def fixcX (i q r n : Nat) (M : T) (K : T → Bool) : Bool := blkOf M i fun g Ty sz els => atO (nth els q) fun el => atO (nth el r) fun v => AV.casesOn v false (fun _ _ => K M) (fun _ => false) (fun _ => false) (fun _ _ => false) (fun _ _ _ _ => false) (fun _ => false) false false false false false (fun _ _ => false) (fun _ _ => false) (fun _ => false) (fun _ => false) (fun _ => false) (fun _ => false)
  (fun s => SY.casesOn s (fun k z => fork n z (fun j => fN j fun j => upd el r [.int k (Int.ofNat j)] fun e2 => upd els q [e2] fun els2 => T.set fuelT M i (some (.blk g Ty sz els2)) K) 0) (fun _ => false) (fun _ => false) (fun _ _ _ _ _ => false) (fun _ _ _ => false) (fun _ _ => false) (fun _ _ _ _ => false) (fun _ _ _ _ => false) (fun _ _ _ => false) (fun _ => false))
theorem fixcX_ok (h : Sim E ρ G F M nx w) {i q r n : Nat} {K : T → Bool} (hk : fixcX i q r n M K = true) : ∃ M', Sim E ρ G F M' nx w ∧ K M' = true := by
  obtain ⟨g, Ty, sz, els, h1, hk1⟩ := blkOf_ok hk
  obtain ⟨el, h2, hk2⟩ := atO_ok hk1
  obtain ⟨v, h3, hk3⟩ := atO_ok hk2
  clear hk hk1 hk2
  rw [nth_eq] at h2 h3
  cases v <;> first | (cases hk3; done) | exact ⟨M, h, hk3⟩ | skip
  case sy s' =>
    cases s' <;> first | (cases hk3; done) | skip
    case int k z =>
      obtain ⟨j, e1, _, e2⟩ := fork_ok (show fork n z (fun j => fN j fun j => upd el r [.int k (Int.ofNat j)] fun e2 => upd els q [e2] fun els2 => T.set fuelT M i (some (.blk g Ty sz els2)) K) 0 = true from hk3)
      rw [fN_eq] at e2
      obtain ⟨e3, l1⟩ := upd_ok e2
      obtain ⟨e4, l2⟩ := upd_ok e3
      obtain ⟨M2, e5, g1, g2⟩ := T.set_ok _ _ _ _ _ e4
      refine ⟨M2, h.swap h1 h2 h3 (v' := .int k (Int.ofNat j)) (fun x hx => ?_) g1 g2, e5⟩
      rw [← hx, e1]
      rfl
noncomputable def forkO (n : Nat) (z : Int) (K : Nat → Bool) (D : Bool) : Nat → Bool := Nat.rec (fun _ => D) (fun _ ih k => ifB (prB (z = Int.ofNat k)) (K k) (ih (Nat.succ k))) n
theorem forkO_ok {z : Int} {K : Nat → Bool} {D : Bool} : ∀ {n k : Nat}, forkO n z K D k = true → (∃ j : Nat, z = (j : Int) ∧ K j = true) ∨ D = true
  | 0, k, h => .inr h
  | n + 1, k, h => by
    have h' : ifB (prB (z = Int.ofNat k)) (K k) (forkO n z K D (Nat.succ k)) = true := h
    rcases ifP_ok h' with ⟨q, g⟩ | ⟨_, g⟩
    · exact .inl ⟨k, q, g⟩
    · exact forkO_ok g
noncomputable def fixoX (i q r n : Nat) (M : T) (K : T → Bool) : Bool := blkOf M i fun g Ty sz els => atO (nth els q) fun el => atO (nth el r) fun v => AV.casesOn v false (fun _ _ => K M) (fun _ => false) (fun _ => false) (fun _ _ => false) (fun _ _ _ _ => false) (fun _ => false) false false false false false (fun _ _ => false) (fun _ _ => false) (fun _ => false) (fun _ => false) (fun _ => false) (fun _ => false)
  (fun s => SY.casesOn s (fun k z => forkO n z (fun j => fN j fun j => upd el r [.int k (Int.ofNat j)] fun e2 => upd els q [e2] fun els2 => T.set fuelT M i (some (.blk g Ty sz els2)) K) (K M) 0) (fun _ => false) (fun _ => false) (fun _ _ _ _ _ => false) (fun _ _ _ => false) (fun _ _ => false) (fun _ _ _ _ => false) (fun _ _ _ _ => false) (fun _ _ _ => false) (fun _ => false))
theorem fixoX_ok (h : Sim E ρ G F M nx w) {i q r n : Nat} {K : T → Bool} (hk : fixoX i q r n M K = true) : ∃ M', Sim E ρ G F M' nx w ∧ K M' = true := by
  obtain ⟨g, Ty, sz, els, h1, hk1⟩ := blkOf_ok hk
  obtain ⟨el, h2, hk2⟩ := atO_ok hk1
  obtain ⟨v, h3, hk3⟩ := atO_ok hk2
  clear hk hk1 hk2
  rw [nth_eq] at h2 h3
  cases v <;> first | (cases hk3; done) | exact ⟨M, h, hk3⟩ | skip
  case sy s' =>
    cases s' <;> first | (cases hk3; done) | skip
    case int k z =>
      rcases forkO_ok (show forkO n z (fun j => fN j fun j => upd el r [.int k (Int.ofNat j)] fun e2 => upd els q [e2] fun els2 => T.set fuelT M i (some (.blk g Ty sz els2)) K) (K M) 0 = true from hk3) with ⟨j, e1, e2⟩ | e2
      · rw [fN_eq] at e2
        obtain ⟨e3, l1⟩ := upd_ok e2
        obtain ⟨e4, l2⟩ := upd_ok e3
        obtain ⟨M2, e5, g1, g2⟩ := T.set_ok _ _ _ _ _ e4
        refine ⟨M2, h.swap h1 h2 h3 (v' := .int k (Int.ofNat j)) (fun x hx => ?_) g1 g2, e5⟩
        rw [← hx, e1]
        rfl
      · exact ⟨M, h, e2⟩
end
inductive Adm : Type 1 | can (k : Nat) (live : List Nat) | born (t Ty sz : Nat) (α : Type) (enc : α → List PL) | cell (i q r Ty sz : Nat) (α : Type) (enc : α → List PL) | up (t : Nat) | upc (i q r : Nat) | upm (i : Nat) | fix (t n : Nat) | frz (t : Nat) | fixc (i q r n : Nat) | frzc (i q r : Nat) | fixo (i q r n : Nat) | kb (i : Nat) (ak av : Bool) (α : Type) (kf vf : α → List PL) | die | kfork (i q r : Nat) | bors (t Ty sz : Nat) (α : Type) (enc : α → List PL) | kjoin (i q r : Nat) (ak av : Bool) (α : Type) (kf vf : α → List PL)
noncomputable def admsX (l : List Adm) : SL → T → Nat → (SL → T → Nat → Bool) → Bool := List.rec (fun S M nx K => K S M nx) (fun a _ ih S M nx K => Adm.casesOn a (fun k live => canX k live S M fun S M nx => ih S M nx K) (fun t Ty sz α enc => bornX t Ty sz α enc S M nx fun S M nx => ih S M nx K) (fun i q r Ty sz α enc => cellX i q r Ty sz α enc M nx fun M nx => ih S M nx K) (fun t => upX t S fun S => ih S M nx K) (fun i q r => upcX i q r M fun M => ih S M nx K) (fun i => upmX i M fun M => ih S M nx K) (fun t n => fixX t n S fun S => ih S M nx K) (fun t => frz1 (getS t S) M fun v M => ih (.cons t v S) M nx K) (fun i q r n => fixcX i q r n M fun M => ih S M nx K) (fun i q r => frzcX i q r M fun M => ih S M nx K) (fun i q r n => fixoX i q r n M fun M => ih S M nx K) (fun i ak av α kf vf => kbX i ak av α kf vf M fun M => ih S M nx K) false (fun i q r => kforkX i q r M fun M => ih S M nx K) (fun t Ty sz α enc => ifB (isSy (getS t S)) (ih S M nx K) (bornX t Ty sz α enc S M nx fun S M nx => ih S M nx K)) (fun i q r ak av α kf vf => kjoinX i q r ak av α kf vf M nx fun M nx => ih S M nx K)) l
noncomputable def admsAt (l : List (Nat × List Adm)) (e : Nat) : List Adm := List.rec [] (fun p _ ih => Bool.rec ih p.2 (Nat.beq p.1 e)) l
noncomputable def slit0 (S : SL) : Nat := AV.casesOn (getS 0 S) 0 (fun _ z => Int.casesOn z (fun n => Nat.succ n) (fun _ => 0)) (fun _ => 0) (fun _ => 0) (fun _ _ => 0) (fun _ _ _ _ => 0) (fun _ => 0) 0 0 0 0 0 (fun _ _ => 0) (fun _ _ => 0) (fun _ => 0) (fun _ => 0) (fun _ => 0) (fun _ => 0) (fun _ => 0)
noncomputable def hasA (l : List (Nat × List Adm)) (e : Nat) : Bool := List.rec false (fun p _ ih => Bool.rec ih true (Nat.beq p.1 e)) l
noncomputable def admsSel (l : List (Nat × List Adm)) (e : Nat) (S : SL) : List Adm := Bool.rec (admsAt l e) (admsAt l (Nat.add e (Nat.mul 1000 (slit0 S)))) (hasA l (Nat.add e (Nat.mul 1000 (slit0 S))))
inductive XC : Type 1 | bad | skip | ret | exit (k : Nat) | reg (draw : Bool) (n : Nat) (tr : XTr) | seq (x y : XC) | cond (p : XP) (x y : XC) | block (k : Nat) (c : XC) | loop (live : List Nat) (c : XC) | inv (j : Nat) (c : XC) | aft (x : XC) (l : List (Nat × List Adm)) | pre (l : List Adm) (x : XC) | spc (j : Nat) (x : XC)
abbrev KC := Nat → SL → T → Nat → Bool
noncomputable def frc (v : AV) (K0 : Bool) (K : AV → Bool) : Bool := AV.casesOn v K0 (fun k z => K (.int k z)) (fun b => K (.bool b)) (fun l => K (.str l)) (fun i o => K (.ptr i o)) (fun i o n c => K (.sl i o n c)) (fun i => K (.map i)) (K .nilP) (K .nilS) (K .nilM) (K .nilF) (K .nilI) (fun t v => K (.iface t v)) (fun f c => K (.fn f c)) (fun i => K (.yl i)) (fun l => K (.agg l)) (fun l => K (.tup l)) (fun i => K (.any i)) (fun s => K (.sy s))
theorem frc_ok {v : AV} {K0 : Bool} {K : AV → Bool} (h : frc v K0 K = true) : (v = .bad ∧ K0 = true) ∨ K v = true := by
  cases v <;> first | exact .inr h | exact .inl ⟨rfl, h⟩
noncomputable def packX (S : SL) (live : List Nat) : SL → (SL → Bool) → Bool := List.rec (fun acc K => K acc) (fun t _ ih acc K => frc (getS t S) (ih acc K) fun v => ih (.cons t v acc) K) live
noncomputable def condX (p : XP) (S : SL) (K : Bool → SL → Bool) : Bool := XP.casesOn p (fun n => refB n S K) (fun v => asB v fun b => K b S) (fun _ => false)
abbrev LpF := Nat → SL → T → Nat → KC → Bool
noncomputable def codeX (cf : CallF) (lp : LpF) (lf : Nat) (c : XC) : SL → T → Nat → KC → Bool := XC.rec
  (fun _ _ _ _ => false) (fun S M nx K => K 0 S M nx) (fun S M nx K => K 1 S M nx) (fun k S M nx K => K k S M nx)
  (fun _ _ tr S M nx K => treeX cf tr S M nx fun S M nx => K 0 S M nx)
  (fun _ _ ihx ihy S M nx K => ihx S M nx fun e S M nx => Nat.casesOn e (ihy S M nx K) fun e' => K (Nat.succ e') S M nx)
  (fun p _ _ ihx ihy S M nx K => condX p S fun b S => ifB b (ihx S M nx K) (ihy S M nx K))
  (fun k _ ih S M nx K => ih S M nx fun e S M nx => ifB (Nat.beq e k) (K 0 S M nx) (K e S M nx))
  (fun live _ ih S M nx K => Nat.rec (motive := fun _ => SL → T → Nat → Bool) (fun _ _ _ => false) (fun _ again S M nx => packX S live .nil fun S => ih S M nx fun e S M nx => Nat.casesOn e (again S M nx) fun e' => K (Nat.succ e') S M nx) lf S M nx)
  (fun j _ _ S M nx K => lp j S M nx K)
  (fun _ l ih S M nx K => ih S M nx fun e S M nx => admsX (admsSel l e S) S M nx (K e))
  (fun l _ ih S M nx K => admsX l S M nx fun S M nx => ih S M nx K)
  (fun j _ _ S M nx K => lp j S M nx K) c
def exOf : Nat → Exit
  | 0 => .normal | 1 => .ret | n + 2 => .exit n
def noA : List XSt → Bool
  | [] => true
  | .a .. :: _ => false
  | _ :: r => noA r
def chkC (P : Program) (N : Nat) : XC → Code → Bool
  | .bad, _ => true
  | .skip, .skip => true
  | .ret, .ret => true
  | .exit k, .exit i => Nat.beq k (i + 2)
  | .reg draw n tr, .region _ ops d => decide (draw = d) && chkTr P ops N tr && (match draw, tr with | true, _ => treeB ops n [] (toTr tr) | false, .leaf sts => noA sts && Nat.beq ops.size n && decide ((sts.map fun s => (kOfSt s).1) = List.range n) | _, _ => false)
  | .seq x y, .seq a b => chkC P N x a && chkC P N y b
  | .cond p x y, .cond c a b => opOk p c && chkC P N x a && chkC P N y b
  | .block k c, .block i a => Nat.beq k (i + 2) && chkC P N c a
  | .loop _ c, .loop a => chkC P N c a
  | .inv _ c, .loop a => chkC P N c a
  | .aft x _, c => chkC P N x c
  | .pre _ x, c => chkC P N x c
  | .spc _ x, c => chkC P N x c
  | _, _ => false
def plain : XC → Bool
  | .seq x y => plain x && plain y
  | .cond _ x y => plain x && plain y
  | .block _ c => plain c
  | .loop _ c => plain c
  | .inv .. | .aft .. | .pre .. | .spc .. => false
  | _ => true
def lpsOf : XC → List (Bool × Nat × XC)
  | .seq x y => lpsOf x ++ lpsOf y
  | .cond _ x y => lpsOf x ++ lpsOf y
  | .block _ c => lpsOf c
  | .loop _ c => lpsOf c
  | .inv j c => [(true, j, c)]
  | .aft x _ => lpsOf x
  | .pre _ x => lpsOf x
  | .spc j x => [(false, j, x)]
  | _ => []
section
variable {P : Program} {E : Env} {ρ : Ren} {G : GS} {F : List Chunk} {M : T} {nx : Nat} {w : World} {N : Nat} {S : SL} {a : Act} {ops : Array Oper} {o : Oper}
theorem condX_ok (s : SR E ρ N S a) {p : XP} {c : Operand} {K : Bool → SL → Bool} (ho : opOk p c = true) (h : condX p S K = true) : ∃ b S', a.eval c = .bool b ∧ SR E ρ N S' a ∧ K b S' = true := by
  cases p with
  | t n =>
    cases c <;> simp only [opOk] at ho <;> first | (cases ho; done) | skip
    have := Nat.eq_of_beq_eq_true ho
    subst this
    obtain ⟨b, S', h1, h2, h3⟩ := refB_ok s (show refB n S K = true from h)
    exact ⟨b, S', h1, h2, h3⟩
  | c v =>
    cases c <;> simp only [opOk] at ho <;> first | (cases ho; done) | skip
    have hd := isC_ok (E := E) (ρ := ρ) ho
    obtain ⟨b, rfl, h1⟩ := asB_ok (show asB v (fun b => K b S) = true from h)
    cases hd
    exact ⟨b, S, rfl, s, h1⟩
  | f n => cases h
theorem packX_ok (s : SR E ρ N S a) : ∀ {live : List Nat} {acc : SL} {K : SL → Bool}, SR E ρ N acc a → packX S live acc K = true → ∃ S', SR E ρ N S' a ∧ K S' = true
  | [], acc, K, sa, h => ⟨acc, sa, h⟩
  | t :: live, acc, K, sa, h => by
    have h' : frc (getS t S) (packX S live acc K) (fun v => packX S live (.cons t v acc) K) = true := h
    rcases frc_ok h' with ⟨_, h1⟩ | h1
    · exact packX_ok s sa h1
    · refine packX_ok s ⟨sa.size, sa.defs, fun u => ?_⟩ h1
      by_cases e : t = u
      · subst e
        rw [getS_self]
        exact s.at_ t
      · rw [getS_ne _ _ e]
        exact sa.at_ u
theorem SR.nil (h1 : a.tmps.size = N) (h2 : a.defers = []) : SR E ρ N .nil a := ⟨h1, h2, fun _ => .inl rfl⟩
theorem wpL_ops {Q : Exit → Act → World → Prop} : ∀ {sts : List XSt} {a : Act} {w : World}, noA sts = true → wpL P ops (fun a w => Q .normal a w) (sts.map kOfSt) a w → wpOps P ops Q (sts.map fun s => (kOfSt s).1) a w
  | [], _, _, _, h => h
  | .p i d g x :: r, a, w, hn, ⟨v, h1, h2⟩ => by
    rw [List.map_cons, wpOps_cons]
    exact op1_Q ((h1 w).to (wpL_ops (Q := Q) (by simpa [noA] using hn) h2))
  | .r i d g x :: r, a, w, hn, ⟨v, h1, h2⟩ => by
    rw [List.map_cons, wpOps_cons]
    exact op1_Q (h1.to (wpL_ops (Q := Q) (by simpa [noA] using hn) h2))
  | .e i d g x :: r, a, w, hn, h => by
    rw [List.map_cons, wpOps_cons]
    exact op1_Q (op1.mono h fun a w h => wpL_ops (Q := Q) (by simpa [noA] using hn) h)
  | .c i d g f xs :: r, a, w, hn, h => by
    rw [List.map_cons, wpOps_cons]
    exact op1_Q (op1.mono h fun a w h => wpL_ops (Q := Q) (by simpa [noA] using hn) h)
  | .k i d g t f xs :: r, a, w, hn, h => by
    rw [List.map_cons, wpOps_cons]
    exact op1_Q (op1.mono h fun a w h => wpL_ops (Q := Q) (by simpa [noA] using hn) h)
  | .a i d g x :: r, a, w, hn, h => by simp [noA] at hn
structure Rel (fl : Bool) (pk : Nat) (E : Env) (ρ : Ren) (E' : Env) (ρ' : Ren) : Prop where
  one : EOk E'
  mem : MLe E.M E'.M
  ext : fl = true → Ext E ρ E' ρ'
  pin : ∀ i e, i < pk → ρ i = some e → ρ' i = some e
theorem Ext.rel {fl : Bool} {pk : Nat} {E' : Env} {ρ' : Ren} (h : Ext E ρ E' ρ') : Rel fl pk E ρ E' ρ' := ⟨h.one, h.env.mem, fun _ => h, fun i e _ q => h.le i e q⟩
theorem Rel.trans {fl : Bool} {pk : Nat} {E1 E2 E3 : Env} {r1 r2 r3 : Ren} (h : Rel fl pk E1 r1 E2 r2) (k : Rel fl pk E2 r2 E3 r3) : Rel fl pk E1 r1 E3 r3 := ⟨k.one, MLe.trans h.mem k.mem, fun q => (h.ext q).trans (k.ext q), fun i e q1 q2 => k.pin i e q1 (h.pin i e q1 q2)⟩
theorem Rel.next {pk : Nat} {E1 E2 : Env} {r1 r2 r3 : Ren} (h : Rel false pk E1 r1 E2 r2) (k : ∀ i e, i < pk → r2 i = some e → r3 i = some e) : Rel false pk E1 r1 E2 r3 := ⟨h.one, h.mem, fun q => (by cases q), fun i e q1 q2 => k i e q1 (h.pin i e q1 q2)⟩
theorem Rel.prev {pk : Nat} {E1 E2 : Env} {r1 r2 r3 : Ren} (h : Rel false pk E1 r2 E2 r3) (k : ∀ i e, i < pk → r1 i = some e → r2 i = some e) : Rel false pk E1 r1 E2 r3 := ⟨h.one, h.mem, fun q => (by cases q), fun i e q1 q2 => h.pin i e q1 (k i e q1 q2)⟩
def keepA (pk : Nat) : List Adm → Bool
  | [] => true
  | .can k _ :: l => Nat.ble pk k && keepA pk l
  | .born .. :: l => keepA pk l
  | .cell .. :: l => keepA pk l
  | .up _ :: l => keepA pk l
  | .upc .. :: l => keepA pk l
  | .upm _ :: l => keepA pk l
  | .fix .. :: l => keepA pk l
  | .frz _ :: l => keepA pk l
  | .fixc .. :: l => keepA pk l
  | .frzc .. :: l => keepA pk l
  | .fixo .. :: l => keepA pk l
  | .kb .. :: l => keepA pk l
  | .die :: l => keepA pk l
  | .kfork .. :: l => keepA pk l
  | .bors .. :: l => keepA pk l
  | .kjoin .. :: l => keepA pk l
def keepL (pk : Nat) : List (Nat × List Adm) → Bool
  | [] => true
  | p :: l => keepA pk p.2 && keepL pk l
def keepB (pk : Nat) : XC → Bool
  | .seq x y => keepB pk x && keepB pk y
  | .cond _ x y => keepB pk x && keepB pk y
  | .block _ c => keepB pk c
  | .loop _ c => keepB pk c
  | .aft x l => keepB pk x && keepL pk l
  | .pre l x => keepA pk l && keepB pk x
  | _ => true
theorem keepL_at {pk : Nat} : ∀ {l : List (Nat × List Adm)} {e : Nat}, keepL pk l = true → keepA pk (admsAt l e) = true
  | [], e, _ => rfl
  | p :: l, e, h => by
    obtain ⟨h1, h2⟩ := and2 h
    have : admsAt (p :: l) e = (Bool.rec (admsAt l e) p.2 (Nat.beq p.1 e) : List Adm) := rfl
    rw [this]
    cases Nat.beq p.1 e
    · exact keepL_at h2
    · exact h1
theorem keepL_sel {pk : Nat} {l : List (Nat × List Adm)} {e : Nat} {S : SL} (h : keepL pk l = true) : keepA pk (admsSel l e S) = true := by
  unfold admsSel
  cases hasA l (Nat.add e (Nat.mul 1000 (slit0 S)))
  · exact keepL_at h
  · exact keepL_at h
theorem admsX_ok {pk : Nat} : ∀ {l : List Adm} {S : SL} {M : T} {nx : Nat} {E : Env} {ρ : Ren} {K : SL → T → Nat → Bool}, EOk E → keepA pk l = true → SR E ρ N S a → Sim E ρ G F M nx w → admsX l S M nx K = true → ∃ S' M' nx' E' ρ', EOk E' ∧ MLe E.M E'.M ∧ SR E' ρ' N S' a ∧ Sim E' ρ' G F M' nx' w ∧ K S' M' nx' = true ∧ ∀ i e, i < pk → ρ i = some e → ρ' i = some e
  | [], S, M, nx, E, ρ, K, hE, _, s, h, hk => ⟨S, M, nx, E, ρ, hE, MLe.refl _, s, h, hk, fun _ _ _ q => q⟩
  | .can k live :: l, S, M, nx, E, ρ, K, hE, hp, s, h, hk => by
    obtain ⟨hp1, hp2⟩ := and2 hp
    rw [Nat.ble_eq] at hp1
    obtain ⟨S1, M1, n1, ρ1, s1, h1, k1, p1⟩ := canX_ok (K := fun S M nx => admsX l S M nx K) s h hk
    obtain ⟨S2, M2, n2, E2, ρ2, o2, m2, s2, h2, k2, p2⟩ := admsX_ok hE hp2 s1 h1 k1
    exact ⟨S2, M2, n2, E2, ρ2, o2, m2, s2, h2, k2, fun i e q1 q2 => p2 i e q1 (p1 i e (Nat.lt_of_lt_of_le q1 hp1) q2)⟩
  | .born t Ty sz α enc :: l, S, M, nx, E, ρ, K, hE, hp, s, h, hk => by
    obtain ⟨S1, M1, n1, ρ1, le1, s1, h1, k1⟩ := bornX_ok (K := fun S M nx => admsX l S M nx K) s h hk
    obtain ⟨S2, M2, n2, E2, ρ2, o2, m2, s2, h2, k2, p2⟩ := admsX_ok hE (show keepA pk l = true from hp) s1 h1 k1
    exact ⟨S2, M2, n2, E2, ρ2, o2, m2, s2, h2, k2, fun i e q1 q2 => p2 i e q1 (le1 i e q2)⟩
  | .cell i q r Ty sz α enc :: l, S, M, nx, E, ρ, K, hE, hp, s, h, hk => by
    obtain ⟨M1, n1, ρ1, le1, h1, k1⟩ := cellX_ok (K := fun M nx => admsX l S M nx K) h hk
    obtain ⟨S2, M2, n2, E2, ρ2, o2, m2, s2, h2, k2, p2⟩ := admsX_ok hE (show keepA pk l = true from hp) (s.mono le1) h1 k1
    exact ⟨S2, M2, n2, E2, ρ2, o2, m2, s2, h2, k2, fun i e q1 q2 => p2 i e q1 (le1 i e q2)⟩
  | .up t :: l, S, M, nx, E, ρ, K, hE, hp, s, h, hk => by
    obtain ⟨S1, s1, k1⟩ := upX_ok (K := fun S => admsX l S M nx K) s hk
    exact admsX_ok hE (show keepA pk l = true from hp) s1 h k1
  | .upc i q r :: l, S, M, nx, E, ρ, K, hE, hp, s, h, hk => by
    obtain ⟨M1, h1, k1⟩ := upcX_ok (K := fun M => admsX l S M nx K) h hk
    exact admsX_ok hE (show keepA pk l = true from hp) s h1 k1
  | .upm i :: l, S, M, nx, E, ρ, K, hE, hp, s, h, hk => by
    obtain ⟨M1, h1, k1⟩ := upmX_ok (K := fun M => admsX l S M nx K) h hk
    exact admsX_ok hE (show keepA pk l = true from hp) s h1 k1
  | .kb i ak av α kf vf :: l, S, M, nx, E, ρ, K, hE, hp, s, h, hk => by
    obtain ⟨M1, h1, k1⟩ := kbX_ok (K := fun M => admsX l S M nx K) h hk
    exact admsX_ok hE (show keepA pk l = true from hp) s h1 k1
  | .kfork i q r :: l, S, M, nx, E, ρ, K, hE, hp, s, h, hk => by
    obtain ⟨M1, h1, k1⟩ := kforkX_ok (K := fun M => admsX l S M nx K) h hk
    exact admsX_ok hE (show keepA pk l = true from hp) s h1 k1
  | .kjoin i q r ak av α kf vf :: l, S, M, nx, E, ρ, K, hE, hp, s, h, hk => by
    obtain ⟨M1, n1, ρ1, le1, h1, k1⟩ := kjoinX_ok (K := fun M nx => admsX l S M nx K) h hk
    obtain ⟨S2, M2, n2, E2, ρ2, o2, m2, s2, h2, k2, p2⟩ := admsX_ok hE (show keepA pk l = true from hp) (s.mono le1) h1 k1
    exact ⟨S2, M2, n2, E2, ρ2, o2, m2, s2, h2, k2, fun i e q1 q2 => p2 i e q1 (le1 i e q2)⟩
  | .bors t Ty sz α enc :: l, S, M, nx, E, ρ, K, hE, hp, s, h, hk => by
    rcases ifB_ok (show ifB (isSy (getS t S)) (admsX l S M nx K) (bornX t Ty sz α enc S M nx fun S M nx => admsX l S M nx K) = true from hk) with ⟨_, hk⟩ | ⟨_, hk⟩
    · exact admsX_ok hE (show keepA pk l = true from hp) s h hk
    obtain ⟨S1, M1, n1, ρ1, le1, s1, h1, k1⟩ := bornX_ok (K := fun S M nx => admsX l S M nx K) s h hk
    obtain ⟨S2, M2, n2, E2, ρ2, o2, m2, s2, h2, k2, p2⟩ := admsX_ok hE (show keepA pk l = true from hp) s1 h1 k1
    exact ⟨S2, M2, n2, E2, ρ2, o2, m2, s2, h2, k2, fun i e q1 q2 => p2 i e q1 (le1 i e q2)⟩
  | .die :: l, S, M, nx, E, ρ, K, hE, hp, s, h, hk => by cases (show false = true from hk)
  | .fix t n :: l, S, M, nx, E, ρ, K, hE, hp, s, h, hk => by
    obtain ⟨S1, s1, k1⟩ := fixX_ok (K := fun S => admsX l S M nx K) s hk
    exact admsX_ok hE (show keepA pk l = true from hp) s1 h k1
  | .frz t :: l, S, M, nx, E, ρ, K, hE, hp, s, h, hk => by
    have hk' : (frz1 (getS t S) M fun v M => admsX l (.cons t v S) M nx K) = true := hk
    have hne : getS t S ≠ .bad := fun e => by rw [e] at hk'; cases hk'
    obtain ⟨x, q1, q2⟩ := (s.at_ t).resolve_left hne
    obtain ⟨E1, M1, u, e1, e2, e3, e4, k1⟩ := frz1_ok h q1 hk'
    have hE1 : EOk E1 := ⟨fun i => by rw [e2]; exact hE.1 i, Tied.mono e1.mem hE.2⟩
    have s1 : SR E1 ρ N (.cons t u S) a := ⟨s.size, s.defs, fun r => by
      by_cases q : t = r
      · subst q
        rw [getS_self]
        exact .inr ⟨x, den_mono (ρ := fun _ => none) (fun _ _ q => by cases q) u x e4, q2⟩
      · rw [getS_ne _ _ q]
        exact (s.at_ r).imp id fun ⟨y, y1, y2⟩ => ⟨y, den_env e1 _ _ y1, y2⟩⟩
    obtain ⟨S2, M2, n2, E2, ρ2, o2, m2, s2, h2, k2, p2⟩ := admsX_ok hE1 (show keepA pk l = true from hp) s1 e3 k1
    exact ⟨S2, M2, n2, E2, ρ2, o2, MLe.trans e1.mem m2, s2, h2, k2, p2⟩
  | .frzc i q r :: l, S, M, nx, E, ρ, K, hE, hp, s, h, hk => by
    obtain ⟨E1, M1, e1, e2, h1, k1⟩ := frzcX_ok (K := fun M => admsX l S M nx K) h hk
    have hE1 : EOk E1 := ⟨fun i => by rw [e2]; exact hE.1 i, Tied.mono e1.mem hE.2⟩
    have s1 : SR E1 ρ N S a := ⟨s.size, s.defs, fun r => (s.at_ r).imp id fun ⟨y, y1, y2⟩ => ⟨y, den_env e1 _ _ y1, y2⟩⟩
    obtain ⟨S2, M2, n2, E2, ρ2, o2, m2, s2, h2, k2, p2⟩ := admsX_ok hE1 (show keepA pk l = true from hp) s1 h1 k1
    exact ⟨S2, M2, n2, E2, ρ2, o2, MLe.trans e1.mem m2, s2, h2, k2, p2⟩
  | .fixo i q r n :: l, S, M, nx, E, ρ, K, hE, hp, s, h, hk => by
    obtain ⟨M1, h1, k1⟩ := fixoX_ok (K := fun M => admsX l S M nx K) h hk
    exact admsX_ok hE (show keepA pk l = true from hp) s h1 k1
  | .fixc i q r n :: l, S, M, nx, E, ρ, K, hE, hp, s, h, hk => by
    obtain ⟨M1, h1, k1⟩ := fixcX_ok (K := fun M => admsX l S M nx K) h hk
    exact admsX_ok hE (show keepA pk l = true from hp) s h1 k1
def LpOk (P : Program) (N pk : Nat) (lp : LpF) (b : Bool) (j : Nat) (x : XC) : Prop := ∀ (c : Code) (S : SL) (M : T) (nx : Nat) (E : Env) (ρ : Ren) (G : GS) (F : List Chunk) (a : Act) (w : World) (K : KC) (Q : Exit → Act → World → Prop), EOk E → chkC P N x c = true → SR E ρ N S a → Sim E ρ G F M nx w → lp j S M nx K = true →
  (∀ e S' M' nx' E' ρ' a' w', K e S' M' nx' = true → Rel false pk E ρ E' ρ' → SR E' ρ' N S' a' → Sim E' ρ' G F M' nx' w' → Q (exOf e) a' w') → (bif b then Code.loop c else c).wp P Q a w
theorem codeX_ok (hm : P.follows .mixedOrders = true) {cf : CallF} (hcf : CallOk P cf) {lp : LpF} {lf : Nat} {fl : Bool} {pk : Nat} : ∀ (xc : XC) (c : Code) {S : SL} {M : T} {nx : Nat} {E : Env} {ρ : Ren} {a : Act} {w : World} {K : KC} {Q : Exit → Act → World → Prop}, EOk E → (fl = true → plain xc = true) → keepB pk xc = true → (∀ b j x, (b, j, x) ∈ lpsOf xc → LpOk P N pk lp b j x) → chkC P N xc c = true → SR E ρ N S a → Sim E ρ G F M nx w → codeX cf lp lf xc S M nx K = true →
    (∀ e S' M' nx' E' ρ' a' w', K e S' M' nx' = true → Rel fl pk E ρ E' ρ' → SR E' ρ' N S' a' → Sim E' ρ' G F M' nx' w' → Q (exOf e) a' w') → c.wp P Q a w := by
  intro xc
  induction xc with
  | bad =>
    intro c S M nx E ρ a w K Q hE hfl hkp hlp hc s h hk hq
    cases hk
  | skip =>
    intro c S M nx E ρ a w K Q hE hfl hkp hlp hc s h hk hq
    cases c <;> simp only [chkC] at hc <;> first | (cases hc; done) | skip
    exact wp_skip (hq 0 _ _ _ _ _ _ _ hk (Ext.of hE (Ren.Le.refl _)).rel s h)
  | ret =>
    intro c S M nx E ρ a w K Q hE hfl hkp hlp hc s h hk hq
    cases c <;> simp only [chkC] at hc <;> first | (cases hc; done) | skip
    exact wp_ret (hq 1 _ _ _ _ _ _ _ hk (Ext.of hE (Ren.Le.refl _)).rel s h)
  | exit k =>
    intro c S M nx E ρ a w K Q hE hfl hkp hlp hc s h hk hq
    cases c <;> simp only [chkC] at hc <;> first | (cases hc; done) | skip
    have := Nat.eq_of_beq_eq_true hc
    subst this
    exact wp_exit (hq _ _ _ _ _ _ _ _ hk (Ext.of hE (Ren.Le.refl _)).rel s h)
  | reg draw n tr =>
    intro c S M nx E ρ a w K Q hE hfl hkp hlp hc s h hk hq
    cases c <;> simp only [chkC] at hc <;> first | (cases hc; done) | skip
    rename_i id ops d
    obtain ⟨hc, c3⟩ := and2 hc
    obtain ⟨c1, c2⟩ := and2 hc
    rw [decide_eq_true_eq] at c1
    subst c1
    cases draw with
    | true =>
      refine wp_region_tree hm n _ c3 ?_
      exact treeX_ok hE hcf s h.drawn (fun S' M' nx' E' ρ' a' w' k1 k2 k3 k4 => hq 0 _ _ _ _ _ _ _ k1 k2.rel k3 k4) c2 hk
    | false =>
      cases tr with
      | split x y t u => cases c3
      | leaf sts =>
        have hall : ∀ st ∈ sts, chkSt P ops N st = true := fun st hst => List.all_eq_true.1 c2 st hst
        obtain ⟨hc, c5⟩ := and2 c3
        obtain ⟨c3, c4⟩ := and2 hc
        rw [decide_eq_true_eq] at c5
        have c4 := Nat.eq_of_beq_eq_true c4
        refine wp_region ?_
        rw [c4, ← c5]
        exact wpL_ops c3 (regX_ok hcf hE hall s h hk fun S' M' nx' E' ρ' a' w' k1 k2 k3 k4 => hq 0 _ _ _ _ _ _ _ k1 k2.rel k3 k4)
  | seq x y ihx ihy =>
    intro c S M nx E ρ a w K Q hE hfl hkp hlp hc s h hk hq
    cases c <;> simp only [chkC] at hc <;> first | (cases hc; done) | skip
    obtain ⟨c1, c2⟩ := and2 hc
    refine wp_seq (ihx _ hE (fun q => (and2 (hfl q)).1) (and2 hkp).1 (fun b j x h => hlp b j x (List.mem_append.2 (.inl h))) c1 s h hk fun e S' M' nx' E' ρ' a' w' k1 k2 k3 k4 => ?_)
    match e, k1 with
    | 0, k1 => exact ihy _ k2.one (fun q => (and2 (hfl q)).2) (and2 hkp).2 (fun b j x h => hlp b j x (List.mem_append.2 (.inr h))) c2 k3 k4 k1 fun e S2 M2 nx2 E2 ρ2 a2 w2 j1 j2 => hq e _ _ _ _ _ _ _ j1 (k2.trans j2)
    | 1, k1 => exact hq 1 _ _ _ _ _ _ _ k1 k2 k3 k4
    | n + 2, k1 => exact hq (n + 2) _ _ _ _ _ _ _ k1 k2 k3 k4
  | cond p x y ihx ihy =>
    intro c S M nx E ρ a w K Q hE hfl hkp hlp hc s h hk hq
    cases c <;> simp only [chkC] at hc <;> first | (cases hc; done) | skip
    obtain ⟨hc, c3⟩ := and2 hc
    obtain ⟨c1, c2⟩ := and2 hc
    obtain ⟨b, S, h2, s, h4⟩ := condX_ok s c1 hk
    rcases ifB_ok h4 with ⟨rfl, h5⟩ | ⟨rfl, h5⟩
    · exact wp_cond_true h2 (ihx _ hE (fun q => (and2 (hfl q)).1) (and2 hkp).1 (fun b j x h => hlp b j x (List.mem_append.2 (.inl h))) c2 s h h5 hq)
    · exact wp_cond_false h2 (ihy _ hE (fun q => (and2 (hfl q)).2) (and2 hkp).2 (fun b j x h => hlp b j x (List.mem_append.2 (.inr h))) c3 s h h5 hq)
  | block k x ih =>
    intro c S M nx E ρ a w K Q hE hfl hkp hlp hc s h hk hq
    cases c <;> simp only [chkC] at hc <;> first | (cases hc; done) | skip
    rename_i i cc
    obtain ⟨c1, c2⟩ := and2 hc
    have c1 := Nat.eq_of_beq_eq_true c1
    subst c1
    refine wp_block (ih _ hE hfl hkp hlp c2 s h hk fun e S' M' nx' E' ρ' a' w' k1 k2 k3 k4 => ?_)
    rcases ifB_ok k1 with ⟨q, g1⟩ | ⟨q, g1⟩
    · have he := Nat.eq_of_beq_eq_true q
      have h0 := hq 0 _ _ _ _ _ _ _ g1 k2 k3 k4
      rw [he]
      simp only [exOf, Exit.inBlock, if_true]
      exact h0
    · have := hq e _ _ _ _ _ _ _ g1 k2 k3 k4
      match e, q, this with
      | 0, _, this => exact this
      | 1, _, this => exact this
      | n + 2, q, this =>
        have hne : ¬ n = i := fun e => by subst e; simp at q
        simp only [exOf, Exit.inBlock, if_neg hne]
        exact this
  | loop live x ih =>
    intro c S M nx E ρ a w K Q hE hfl hkp hlp hc s h hk hq
    cases c <;> simp only [chkC] at hc <;> first | (cases hc; done) | skip
    rename_i cc
    refine wp_loop_rounds lf ?_
    have key : ∀ (n : Nat) {S : SL} {M : T} {nx : Nat} {E : Env} {ρ : Ren} {a : Act} {w : World}, EOk E → SR E ρ N S a → Sim E ρ G F M nx w →
        (Nat.rec (motive := fun _ => SL → T → Nat → Bool) (fun _ _ _ => false) (fun _ again S M nx => packX S live .nil fun S => codeX cf lp lf x S M nx fun e S M nx => Nat.casesOn e (again S M nx) fun e' => K (Nat.succ e') S M nx) n S M nx) = true →
        (∀ e S' M' nx' E' ρ' a' w', K e S' M' nx' = true → Rel fl pk E ρ E' ρ' → SR E' ρ' N S' a' → Sim E' ρ' G F M' nx' w' → Q (exOf e) a' w') → Code.rounds P cc Q n a w := by
      intro n
      induction n with
      | zero => intro S M nx E ρ a w _ _ _ hk; cases hk
      | succ n ihn =>
        intro S M nx E ρ a w hE s h hk hq
        obtain ⟨S1, s1, hk1⟩ := packX_ok s (SR.nil s.size s.defs) hk
        refine ih _ hE hfl hkp hlp hc s1 h hk1 fun e S' M' nx' E' ρ' a' w' k1 k2 k3 k4 => ?_
        match e, k1 with
        | 0, k1 => exact ihn k2.one k3 k4 k1 fun e S2 M2 nx2 E2 ρ2 a2 w2 j1 j2 => hq e _ _ _ _ _ _ _ j1 (k2.trans j2)
        | 1, k1 => exact hq 1 _ _ _ _ _ _ _ k1 k2 k3 k4
        | m + 2, k1 => exact hq (m + 2) _ _ _ _ _ _ _ k1 k2 k3 k4
    exact key lf hE s h hk hq
  | inv j x ih =>
    intro c S M nx E ρ a w K Q hE hfl hkp hlp hc s h hk hq
    cases c <;> simp only [chkC] at hc <;> first | (cases hc; done) | skip
    cases fl with
    | true => exact absurd (hfl rfl) (by simp [plain])
    | false => exact hlp true j x (by simp [lpsOf]) _ S M nx E ρ G F a w K Q hE hc s h hk hq
  | aft x l ih =>
    intro c S M nx E ρ a w K Q hE hfl hkp hlp hc s h hk hq
    cases fl with
    | true => exact absurd (hfl rfl) (by simp [plain])
    | false =>
      have hc' : chkC P N x c = true := by
        cases c <;> exact hc
      refine ih c hE (fun q => by cases q) (and2 hkp).1 hlp hc' s h hk fun e S' M' nx' E' ρ' a' w' k1 k2 k3 k4 => ?_
      obtain ⟨S2, M2, n2, E2, ρ2, o2, m2, s2, h2, g2, p2⟩ := admsX_ok k2.one (keepL_sel (and2 hkp).2) k3 k4 k1
      exact hq e S2 M2 n2 E2 ρ2 a' w' g2 (k2.trans ⟨o2, m2, fun q => (by cases q), p2⟩) s2 h2
  | pre l x ih =>
    intro c S M nx E ρ a w K Q hE hfl hkp hlp hc s h hk hq
    cases fl with
    | true => exact absurd (hfl rfl) (by simp [plain])
    | false =>
      have hc' : chkC P N x c = true := by
        cases c <;> exact hc
      obtain ⟨S2, M2, n2, E2, ρ2, o2, m2, s2, h2, g2, p2⟩ := admsX_ok (K := fun S M nx => codeX cf lp lf x S M nx K) hE (and2 hkp).1 s h hk
      exact ih c o2 (fun q => by cases q) (and2 hkp).2 hlp hc' s2 h2 g2 fun e S' M' nx' E' ρ' a' w' k1 k2 k3 k4 => hq e S' M' nx' E' ρ' a' w' k1 (Rel.trans ⟨o2, m2, fun q => (by cases q), p2⟩ k2) k3 k4
  | spc j x ih =>
    intro c S M nx E ρ a w K Q hE hfl hkp hlp hc s h hk hq
    cases fl with
    | true => exact absurd (hfl rfl) (by simp [plain])
    | false =>
      have hc' : chkC P N x c = true := by
        cases c <;> exact hc
      exact hlp false j x (by simp [lpsOf]) c S M nx E ρ G F a w K Q hE hc' s h hk hq
end
inductive XRes | none | one (t : Nat) | two (t u : Nat) | cell (t : Nat) (agg : Bool) (n : Nat) | ct (t : Nat) (agg : Bool) (n u : Nat)
inductive XF : Type 1 | mk (N : Nat) (res : XRes) (body : XC)
noncomputable def resX (r : XRes) (S : SL) (M : T) (K : AV → Bool) : Bool := XRes.casesOn r (K (.tup [])) (fun t => nb (getS t S) K) (fun t u => nb (getS t S) fun x => nb (getS u S) fun y => K (.tup [x, y])) (fun t agg n => nb (getS t S) fun p => ldY agg n p M K) (fun t agg n u => nb (getS t S) fun p => ldY agg n p M fun v => nb (getS u S) fun y => K (.tup [v, y]))
noncomputable def argsX (vs : List AV) : Nat → SL → (SL → Bool) → Bool := List.rec (fun _ S K => K S) (fun v _ ih n S K => ih (Nat.succ n) (.cons n v S) K) vs
def chkRes (P : Program) (r : XRes) (rs : List ResultVar) : Bool := match r, rs with
  | .none, [] => true
  | .one t, [.tmp t'] => Nat.beq t t'
  | .two t u, [.tmp t', .tmp u'] => Nat.beq t t' && Nat.beq u u'
  | .cell t agg n, [.cell t' ty] => Nat.beq t t' && decide (isAg P ty = some agg) && decide (szOf P ty = some n)
  | .ct t agg n u, [.cell t' ty, .tmp u'] => Nat.beq t t' && decide (isAg P ty = some agg) && decide (szOf P ty = some n) && Nat.beq u u'
  | _, _ => false
def bodyOf : XF → XC
  | .mk _ _ b => b
def nOf : XF → Nat
  | .mk n _ _ => n
def chkF (P : Program) (f : Nat) (xf : XF) : Bool := match xf, P.funcs[f]? with
  | .mk N res body, some fn => (match fn.body with | some c => Nat.beq fn.ntmps N && chkRes P res fn.results.toList && chkC P N body c | none => false)
  | _, none => false
abbrev SpecE := List AV → T → Nat → (AV → T → Nat → Bool) → Bool
inductive ES : Type 1 | mk (k : Nat) (sp : SpecE)
noncomputable def fP (l : List (Nat × Nat)) : (List (Nat × Nat) → Bool) → Bool := List.rec (fun K => K []) (fun p _ ih K => fN p.1 fun a => fN p.2 fun b => ih fun l => K ((a, b) :: l)) l
theorem fP_eq : ∀ {l : List (Nat × Nat)} {K : List (Nat × Nat) → Bool}, fP l K = K l
  | [], K => rfl
  | p :: l, K => by
    have : fP (p :: l) K = (fN p.1 fun a => fN p.2 fun b => fP l fun l => K ((a, b) :: l)) := rfl
    rw [this, fN_eq, fN_eq, fP_eq]
def belowB (n : Nat) (ps : List (Nat × Nat)) : Bool := ps.all fun p => Nat.blt p.2 n
theorem belowB_ok {n : Nat} {ps : List (Nat × Nat)} (h : belowB n ps = true) : ∀ p ∈ ps, p.2 < n := fun p hp => by
  have := List.all_eq_true.1 h p hp
  simpa [Nat.blt_eq] using this
noncomputable def canV (k : Nat) (v : AV) (M : T) (K : AV → T → Nat → Bool) : Bool := fP (numd 0 (walkI M 200 (upTo k (idsA v)) [])) fun ps => must (pinsB ps k) (must (newsOk ps) (fN ps.length fun n => must (belowB n ps) (renM ps M ps .leaf fun M' => atO (renA ps v) fun v' => K v' M' n)))
noncomputable def delM (l : List (Nat × Nat)) : T → (T → Bool) → Bool := List.rec (fun M K => K M) (fun p _ ih M K => T.set fuelT M p.1 none fun M => ih M K) l
noncomputable def lkB (ps : List (Nat × Nat)) (j : Nat) : Nat := List.rec 0 (fun p _ ih => Bool.rec ih p.1 (Nat.beq p.2 j)) ps
noncomputable def outQ (k nx : Nat) (ps : List (Nat × Nat)) (l : List Nat) : List (Nat × Nat) := List.rec [] (fun j _ ih => (j, Bool.rec (Nat.add nx j) (lkB ps j) (Nat.blt j k)) :: ih) l
def outB (k nx n : Nat) (ps qs : List (Nat × Nat)) : Bool := qs.all fun q => Nat.blt q.1 n && ((Nat.blt q.1 k && ps.any fun p => Nat.beq p.1 q.2 && Nat.beq p.2 q.1) || (Nat.ble k q.1 && Nat.beq q.2 (nx + q.1)))
noncomputable def natGo (k : Nat) (sp : SpecE) (vs : List AV) (M : T) (nx : Nat) (K : AV → T → Nat → Bool) : Bool := fP (numd 0 (walkI M 200 (idsL vs) [])) fun ps => must (newsOk ps) (fN ps.length fun n => must (belowB n ps) (atO (renL ps vs) fun us => renM ps M ps .leaf fun Ml => sp us Ml n fun v M' n' =>
  fP (outQ k nx ps (walkI M' 200 (upTo k (idsA v)) [])) fun qs => must (newsOk qs) (must (outB k nx n' ps qs) (atO (renA qs v) fun v' => delM ps M fun M1 => renM qs M' qs M1 fun M2 => fN (nx + n') fun n2 => K v' M2 n2))))
noncomputable def callX (tab : Nat → Option XF) (nat : Nat → List AV → Option ES) (lp : LpF) (lf : Nat) : Nat → CallF := Nat.rec (fun f vs M nx K => Option.casesOn (nat f vs) false fun es => ES.casesOn es fun k sp => natGo k sp vs M nx K) (fun _ ih f vs M nx K => Option.casesOn (nat f vs) (atO (tab f) fun xf => XF.casesOn xf fun N res body =>
  must (Nat.ble (lenL vs) N) (argsX vs 0 .nil fun S => codeX ih lp lf body S M nx fun e S M nx => ifB (Nat.blt 1 e) false (resX res S M fun v => K v M nx))) fun es => ES.casesOn es fun k sp => natGo k sp vs M nx K)
noncomputable def funE (k : Nat) (cf : CallF) (lp : LpF) (lf : Nat) (xf : XF) (vs : List AV) (M : T) (nx : Nat) (K : AV → T → Nat → Bool) : Bool := XF.casesOn xf fun N res body => must (Nat.ble (lenL vs) N) (argsX vs 0 .nil fun S => codeX cf lp lf body S M nx fun e S M nx => ifB (Nat.blt 1 e) false (resX res S M fun v => canV k v M K))
section
variable {P : Program} {E : Env} {ρ : Ren} {G : GS} {F : List Chunk} {M : T} {nx : Nat} {w : World} {N : Nat} {S : SL} {a : Act} {ops : Array Oper} {o : Oper} {pk : Nat}
theorem argsX_ok : ∀ {vs : List AV} {xs : List Value} {n : Nat} {S : SL} {K : SL → Bool}, denL E ρ vs = some xs → (∀ i x, xs[i]? = some x → a.tmps.getD (n + i) undef = x) → SR E ρ N S a → argsX vs n S K = true → ∃ S', SR E ρ N S' a ∧ K S' = true
  | [], xs, n, S, K, _, _, s, h => ⟨S, s, h⟩
  | v :: vs, xs, n, S, K, hd, hx, s, h => by
    obtain ⟨y, ys, h1, h2, rfl⟩ := denL_cons hd
    have h' : argsX vs (Nat.succ n) (.cons n v S) K = true := h
    refine argsX_ok h2 (fun i x hi => ?_) ⟨s.size, s.defs, fun t => ?_⟩ h'
    · have := hx (i + 1) x (by simpa using hi)
      rw [show n + (i + 1) = Nat.succ n + i by omega] at this
      exact this
    · by_cases e : n = t
      · subst e
        rw [getS_self]
        exact .inr ⟨y, h1, hx 0 y rfl⟩
      · rw [getS_ne _ _ e]
        exact s.at_ t
theorem slot_ok (s : SR E ρ N S a) {t : Nat} {K : AV → Bool} (h : nb (getS t S) K = true) : ∃ x, den E ρ (getS t S) = some x ∧ a.tmps.getD t undef = x ∧ K (getS t S) = true := by
  obtain ⟨h1, h2⟩ := nb_ok h
  obtain ⟨x, h3, h4⟩ := (s.at_ t).resolve_left h1
  exact ⟨x, h3, h4, h2⟩
theorem resX_ok (s : SR E ρ N S a) (h : Sim E ρ G F M nx w) {fn : Func} {r : XRes} {K : AV → Bool} (hc : chkRes P r fn.results.toList = true) (hk : resX r S M K = true) : ∃ v z, den E ρ v = some z ∧ K v = true ∧ (results fn a.tmps).run P w = .ok z w := by
  unfold chkRes at hc
  split at hc
  · rename_i h1
    have hr := toL h1
    exact ⟨.tup [], .tuple #[], by simp [den, denL], hk, results_none hr _ _ _⟩
  · rename_i t t' h1
    have hr := toL h1
    have := Nat.eq_of_beq_eq_true hc
    subst this
    obtain ⟨x, g1, g2, g3⟩ := slot_ok s (show nb (getS t S) K = true from hk)
    exact ⟨_, x, g1, g3, by rw [results_tmp hr, g2]⟩
  · rename_i t u t' u' h1
    have hr := toL h1
    obtain ⟨c1, c2⟩ := and2 hc
    have c1 := Nat.eq_of_beq_eq_true c1
    have c2 := Nat.eq_of_beq_eq_true c2
    subst c1; subst c2
    obtain ⟨x, g1, g2, g3⟩ := slot_ok s (show nb (getS t S) (fun x => nb (getS u S) fun y => K (.tup [x, y])) = true from hk)
    obtain ⟨y, g4, g5, g6⟩ := slot_ok s (show nb (getS u S) (fun y => K (.tup [getS t S, y])) = true from g3)
    exact ⟨_, .tuple #[x, y], by simp only [den, denL, g1, g4], g6, by rw [results_tmp2 hr, g2, g5]⟩
  · rename_i t agg n t' ty h1
    have hr := toL h1
    obtain ⟨hc, c3⟩ := and2 hc
    obtain ⟨c1, c2⟩ := and2 hc
    rw [decide_eq_true_eq] at c2 c3
    have c1 := Nat.eq_of_beq_eq_true c1
    subst c1
    obtain ⟨x, g1, g2, g3⟩ := slot_ok s (show nb (getS t S) (fun p => ldY agg n p M K) = true from hk)
    have fin : ∀ {u : AV} {z : Value}, den E ρ u = some z → K u = true → (Instr.loadAt ty x).run P w = .ok z w → ∃ v z, den E ρ v = some z ∧ K v = true ∧ (results fn a.tmps).run P w = .ok z w := by
      intro u z d1 d2 d3
      refine ⟨u, z, d1, d2, ?_⟩
      have e1 : a.tmps[t]?.getD undef = x := by simpa using g2
      cases x with
      | pointer p =>
        cases p with
        | some ad =>
          simp only [Instr.loadAt, Instr.sureAddr, Sem.run_bind, Sem.run_pure, Result.andThen_ok] at d3
          simp [results, hr, e1, asAddr, d3]
        | none => simp [Instr.loadAt, Instr.sureAddr] at d3
      | _ => simp [Instr.loadAt, Instr.sureAddr] at d3
    obtain ⟨u, z, d1, d2, d3⟩ := ldY_ok (P := P) h g1 g3 c2 c3
    exact fin d1 d2 d3
  · rename_i t agg n v0 t' ty u' h1
    have hr := toL h1
    obtain ⟨hc, c4⟩ := and2 hc
    obtain ⟨hc, c3⟩ := and2 hc
    obtain ⟨c1, c2⟩ := and2 hc
    rw [decide_eq_true_eq] at c2 c3
    have c1 := Nat.eq_of_beq_eq_true c1
    subst c1
    have c4 := Nat.eq_of_beq_eq_true c4
    subst c4
    obtain ⟨x, g1, g2, g3⟩ := slot_ok s (show nb (getS t S) (fun p => ldY agg n p M fun v => nb (getS v0 S) fun y => K (.tup [v, y])) = true from hk)
    obtain ⟨u, z, d1, d2, d3⟩ := ldY_ok (P := P) h g1 g3 c2 c3
    obtain ⟨y, e1, e2, e3⟩ := slot_ok s d2
    refine ⟨_, .tuple #[z, y], by simp only [den, denL, d1, e1], e3, ?_⟩
    rw [results_cell_tmp hr, g2, e2]
    cases x with
    | pointer p =>
      cases p with
      | some ad =>
        simp only [Instr.loadAt, Instr.sureAddr, Sem.run_bind, Sem.run_pure, Result.andThen_ok] at d3
        simp [asAddr, d3]
      | none => simp [Instr.loadAt, Instr.sureAddr] at d3
    | _ => simp [Instr.loadAt, Instr.sureAddr] at d3
  · cases hc
theorem renM_all : ∀ {ps l : List (Nat × Nat)} {M acc : T} {K : T → Bool}, renM ps M l acc K = true → ∀ p ∈ l, ∃ o, M.get p.1 = some o
  | ps, [], M, acc, K, h, p, hp => by simp at hp
  | ps, q :: l, M, acc, K, h, p, hp => by
    have h' : (atO (M.get q.1) fun o => atO (renO ps o) fun o' => T.set fuelT acc q.2 (some o') fun acc => renM ps M l acc K) = true := h
    obtain ⟨o, h1, h2⟩ := atO_ok h'
    obtain ⟨o', h3, h4⟩ := atO_ok h2
    obtain ⟨acc', h5, s1, s2⟩ := T.set_ok _ _ _ _ _ h4
    rcases List.mem_cons.1 hp with rfl | hp
    · exact ⟨o, h1⟩
    · exact renM_all h5 p hp
theorem renM_over : ∀ {ps l : List (Nat × Nat)} {M M1 acc : T} {K : T → Bool}, (∀ j o, acc.get j = some o → (∃ i o0, (i, j) ∈ ps ∧ M.get i = some o0 ∧ renO ps o0 = some o) ∨ M1.get j = some o) → (∀ p ∈ l, p ∈ ps) → renM ps M l acc K = true →
    ∃ M', K M' = true ∧ ∀ j o, M'.get j = some o → (∃ i o0, (i, j) ∈ ps ∧ M.get i = some o0 ∧ renO ps o0 = some o) ∨ M1.get j = some o
  | ps, [], M, M1, acc, K, ha, _, h => ⟨acc, h, ha⟩
  | ps, p :: l, M, M1, acc, K, ha, hl, h => by
    have h' : (atO (M.get p.1) fun o => atO (renO ps o) fun o' => T.set fuelT acc p.2 (some o') fun acc => renM ps M l acc K) = true := h
    obtain ⟨o, h1, h2⟩ := atO_ok h'
    obtain ⟨o', h3, h4⟩ := atO_ok h2
    obtain ⟨acc', h5, s1, s2⟩ := T.set_ok _ _ _ _ _ h4
    refine renM_over (fun j ob hj => ?_) (fun q hq => hl q (by simp [hq])) h5
    by_cases e : j = p.2
    · subst e
      rw [s1] at hj
      cases hj
      exact .inl ⟨p.1, o, hl p (by simp), h1, h3⟩
    · rw [s2 j e] at hj
      exact ha j ob hj
theorem delM_ok : ∀ {l : List (Nat × Nat)} {M : T} {K : T → Bool}, delM l M K = true → ∃ M', K M' = true ∧ (∀ j o, M'.get j = some o → M.get j = some o ∧ ∀ p ∈ l, p.1 ≠ j)
  | [], M, K, h => ⟨M, h, fun j o hj => ⟨hj, fun p hp => by simp at hp⟩⟩
  | p :: l, M, K, h => by
    have h' : (T.set fuelT M p.1 none fun M => delM l M K) = true := h
    obtain ⟨M1, h1, s1, s2⟩ := T.set_ok _ _ _ _ _ h'
    obtain ⟨M2, h2, h3⟩ := delM_ok h1
    refine ⟨M2, h2, fun j o hj => ?_⟩
    obtain ⟨q1, q2⟩ := h3 j o hj
    have hne : p.1 ≠ j := fun e => by rw [← e, s1] at q1; cases q1
    refine ⟨by rw [← s2 j (fun e => hne e.symm)]; exact q1, fun r hr => ?_⟩
    rcases List.mem_cons.1 hr with rfl | hr
    · exact hne
    · exact q2 r hr
theorem outB_ok {k nx n : Nat} {ps qs : List (Nat × Nat)} (h : outB k nx n ps qs = true) : ∀ q ∈ qs, q.1 < n ∧ ((q.1 < k ∧ (q.2, q.1) ∈ ps) ∨ (k ≤ q.1 ∧ q.2 = nx + q.1)) := fun q hq => by
  have := List.all_eq_true.1 h q hq
  simp only [Bool.and_eq_true, Bool.or_eq_true, Nat.blt_eq, Nat.ble_eq] at this
  obtain ⟨h1, h2⟩ := this
  refine ⟨h1, ?_⟩
  rcases h2 with ⟨h2, h3⟩ | ⟨h2, h3⟩
  · obtain ⟨p, q1, q2⟩ := List.any_eq_true.1 h3
    simp only [Bool.and_eq_true] at q2
    have e1 := Nat.eq_of_beq_eq_true q2.1
    have e2 := Nat.eq_of_beq_eq_true q2.2
    have : p = (q.2, q.1) := by cases p; simp_all
    rw [this] at q1
    exact .inl ⟨h2, q1⟩
  · exact .inr ⟨h2, Nat.eq_of_beq_eq_true h3⟩
theorem canV_ok (h : Sim E ρ G F M nx w) {k : Nat} {v : AV} {x : Value} {K : AV → T → Nat → Bool} (hd : den E ρ v = some x) (hk : canV k v M K = true) :
    ∃ v' M' n' ρ', Sim E ρ' G F M' n' w ∧ den E ρ' v' = some x ∧ K v' M' n' = true ∧ ∀ i e, i < k → ρ i = some e → ρ' i = some e := by
  unfold canV at hk
  rw [fP_eq] at hk
  generalize numd 0 (walkI M 200 (upTo k (idsA v)) []) = ps at hk
  obtain ⟨h1, hk⟩ := must_ok hk
  obtain ⟨h2, hk⟩ := must_ok hk
  rw [fN_eq] at hk
  obtain ⟨h3, hk⟩ := must_ok hk
  obtain ⟨M', h4, h5⟩ := renM_ok (ps := ps) (fun j o hj => by simp [T.get_leaf] at hj) (fun p hp => hp) hk
  obtain ⟨v', h6, h7⟩ := atO_ok h4
  exact ⟨v', M', _, renR ps ρ, h.ren h2 (belowB_ok h3) h5, renA_den h2 _ _ _ h6 hd, h7, fun i e q1 q2 => by rw [renR_at h2 (pinsB_ok h1 i q1)]; exact q2⟩
def NatE (P : Program) (f k : Nat) (sp : SpecE) : Prop := ∀ (us : List AV) (xs : List Value) (E : Env) (ρ : Ren) (G : GS) (F : List Chunk) (M : T) (nx : Nat) (w : World) (K : AV → T → Nat → Bool) (R : Ending → World → Prop), EOk E → Sim E ρ G F M nx w → denL E ρ us = some xs → sp us M nx K = true →
  (∀ v M' nx' E' ρ' w' z, K v M' nx' = true → EOk E' → MLe E.M E'.M → (∀ i e, i < k → ρ i = some e → ρ' i = some e) → Sim E' ρ' G F M' nx' w' → den E' ρ' v = some z → R (.returned z) w') → Calls P f xs.toArray w R
theorem natGo_ok {f k : Nat} {sp : SpecE} (hn : NatE P f k sp) {vs : List AV} {xs : List Value} {K : AV → T → Nat → Bool} {R : Ending → World → Prop} (hE : EOk E) (h : Sim E ρ G F M nx w) (hd : denL E ρ vs = some xs) (hk : natGo k sp vs M nx K = true)
    (hr : ∀ v M' nx' E' ρ' w' z, K v M' nx' = true → Ext E ρ E' ρ' → Sim E' ρ' G F M' nx' w' → den E' ρ' v = some z → R (.returned z) w') : Calls P f xs.toArray w R := by
  classical
  unfold natGo at hk
  rw [fP_eq] at hk
  generalize numd 0 (walkI M 200 (idsL vs) []) = ps at hk
  obtain ⟨h1, hk⟩ := must_ok hk
  rw [fN_eq] at hk
  obtain ⟨h2, hk⟩ := must_ok hk
  have h2 := belowB_ok h2
  obtain ⟨us, h3, hk⟩ := atO_ok hk
  have hall := renM_all hk
  obtain ⟨Ml, hsp, hMl⟩ := renM_ok (ps := ps) (fun j o hj => by simp [T.get_leaf] at hj) (fun p hp => hp) hk
  obtain ⟨c, hh, hob, hinj⟩ := h.ex
  let B : Nat × Obj → Bool := fun q => decide (∃ p ∈ ps, ∃ e o, ρ p.1 = some e ∧ e.b = q.1 ∧ M.get p.1 = some o ∧ hasB e o = true)
  have hB : ∀ q : Nat × Obj, B q = true ↔ ∃ p ∈ ps, ∃ e o, ρ p.1 = some e ∧ e.b = q.1 ∧ M.get p.1 = some o ∧ hasB e o = true := fun q => by simp only [B, decide_eq_true_eq]
  have hh1 : Holds { G with M := E.M } w (c.filter B :: c.filter (fun q => !B q) :: F) := hh.perm (by
    simp only [List.flatten_cons, ← List.append_assoc]
    exact (List.filter_append_perm B c).append_right _)
  have hs : Sim E (renR ps ρ) G (c.filter (fun q => !B q) :: F) Ml ps.length w := by
    refine ⟨⟨c.filter B, hh1, fun j o hj => ?_, fun j k e f o o' hj hk he hf hb1 hb2 hb => ?_⟩, h.mem, fun j hj => ?_⟩
    · obtain ⟨i, o0, g1, g2, g3⟩ := hMl j o hj
      obtain ⟨e, a1, q⟩ := hob i o0 g2
      have hHB := renO_hasB (e := e) g3
      refine ⟨e, by rw [renR_at h1 g1]; exact a1, ?_⟩
      rcases q with ⟨q1, ob, q2, q3⟩ | ⟨q1, q2⟩
      · exact .inl ⟨by rw [hHB.1]; exact q1, ob, List.mem_filter.2 ⟨q2, (hB _).2 ⟨(i, j), g1, e, o0, a1, rfl, g2, q1⟩⟩, renO_rel h1 g3 q3⟩
      · exact .inr ⟨by rw [hHB.1]; exact q1, hHB.2 q2⟩
    · obtain ⟨i, o0, g1, g2, g3⟩ := hMl j o hj
      obtain ⟨i', o1, f1, f2, f3⟩ := hMl k o' hk
      rw [renR_at h1 g1] at he
      rw [renR_at h1 f1] at hf
      rw [(renO_hasB (e := e) g3).1] at hb1
      rw [(renO_hasB (e := f) f3).1] at hb2
      have := hinj i i' e f o0 o1 g2 f2 he hf hb1 hb2 hb
      subst this
      exact news_inj h1 g1 f1
    · unfold renR
      split
      · rename_i p hp
        have q1 := List.mem_of_find?_eq_some hp
        have q2 := List.find?_some hp
        have := Nat.eq_of_beq_eq_true q2
        have := h2 p q1
        omega
      · rfl
  refine hn us xs E (renR ps ρ) G _ Ml _ w _ R hE hs (renL_den h1 _ _ _ h3 hd) hsp fun v M' n' E' ρ' w' z kv hE' hm hpin hs' hz => ?_
  rw [fP_eq] at kv
  generalize outQ k nx ps (walkI M' 200 (upTo k (idsA v)) []) = qs at kv
  obtain ⟨g1, kv⟩ := must_ok kv
  obtain ⟨g2, kv⟩ := must_ok kv
  have g2 := outB_ok g2
  obtain ⟨v', g3, kv⟩ := atO_ok kv
  obtain ⟨M1, kv, hM1⟩ := delM_ok kv
  obtain ⟨M2, kv, hM2⟩ := renM_over (M1 := M1) (fun j o hj => .inr hj) (fun p hp => hp) kv
  rw [fN_eq] at kv
  obtain ⟨c', hh', hob', hinj'⟩ := hs'.ex
  let ρo : Ren := fun i => if i < nx then ρ i else ρ' (i - nx)
  have lt : ∀ i e, ρ i = some e → i < nx := fun i e q => by
    by_cases q1 : i < nx
    · exact q1
    · rw [h.fresh i (by omega)] at q; cases q
  have hle : ρ.Le ρo := fun i e q => by simp only [ρo, if_pos (lt i e q)]; exact q
  have hq : ∀ j i, (j, i) ∈ qs → ∀ e, ρ' j = some e → ρo i = some e := fun j i hji e he => by
    obtain ⟨q1, ⟨q2, q3⟩ | ⟨q2, q3⟩⟩ := g2 _ hji
    · obtain ⟨o, ho⟩ := hall _ q3
      obtain ⟨e0, a1, _⟩ := hob _ _ ho
      have := hpin j e0 q2 (by rw [renR_at h1 q3]; exact a1)
      rw [this] at he
      cases he
      exact hle _ _ a1
    · simp only at q2 q3
      have : ¬ i < nx := by omega
      simp only [ρo, if_neg this]
      rw [show i - nx = j by omega]; exact he
  have hrle : (renR qs ρ').Le ρo := fun i e q => by
    unfold renR at q
    split at q
    · rename_i p hp
      have q1 := List.mem_of_find?_eq_some hp
      have q2 := List.find?_some hp
      have q2 := Nat.eq_of_beq_eq_true q2
      subst q2
      exact hq p.1 p.2 q1 e q
    · cases q
  have hEE : EEq ρ E ⟨E.at_, E'.M⟩ := ⟨fun _ _ _ => rfl, hm⟩
  refine hr v' M2 (nx + n') ⟨E.at_, E'.M⟩ ρo w' z kv ⟨hEE, hle, hE.1, hE'.2⟩ ⟨⟨c' ++ c.filter (fun q => !B q), ?_, fun id o hid => ?_, fun i j e f o o' hi hj he hf hb1 hb2 hb => ?_⟩, hs'.mem, fun i hi => ?_⟩ (den_mono hrle _ _ (renA_den g1 _ _ _ g3 hz))
  · exact hh'.perm (by simp)
  · rcases hM2 id o hid with ⟨j, o0, p1, p2, p3⟩ | p1
    · obtain ⟨e, a1, q⟩ := hob' j o0 p2
      have hHB := renO_hasB (e := e) p3
      refine ⟨e, hq j id p1 e a1, ?_⟩
      rcases q with ⟨q1, ob, q2, q3⟩ | ⟨q1, q2⟩
      · exact .inl ⟨by rw [hHB.1]; exact q1, ob, List.mem_append.2 (.inl q2), (renO_rel (t2 := E.at_) g1 p3 q3).mono hrle⟩
      · exact .inr ⟨by rw [hHB.1]; exact q1, hHB.2 q2⟩
    · obtain ⟨q1, q2⟩ := hM1 id o p1
      obtain ⟨e, a1, q⟩ := hob id o q1
      refine ⟨e, hle _ _ a1, ?_⟩
      rcases q with ⟨r1, ob, r2, r3⟩ | r
      · refine .inl ⟨r1, ob, List.mem_append.2 (.inr (List.mem_filter.2 ⟨r2, ?_⟩)), (r3.env hEE).mono hle⟩
        have : ¬ B (e.b, ob) = true := fun hb => by
          obtain ⟨p, s1, e2, o2, s2, s3, s4, s5⟩ := (hB _).1 hb
          exact q2 p s1 (hinj p.1 id e2 e o2 o s4 q1 s2 a1 s5 r1 s3)
        simpa using this
      · exact .inr r
  · have nd := hh'.nodup
    simp only [List.flatten_cons, List.map_append] at nd
    have ap : ∀ b, b ∈ c'.map (·.1) → b ∈ (c.filter fun q => !B q).map (·.1) → False := fun b b1 b2 =>
      (List.nodup_append.1 nd).2.2 b b1 b (List.mem_append.2 (.inl b2)) rfl
    have blkN : ∀ id o e, (∃ j o0, (j, id) ∈ qs ∧ M'.get j = some o0 ∧ renO qs o0 = some o) → ρo id = some e → hasB e o = true → e.b ∈ c'.map (·.1) := by
      rintro id o e ⟨j, o0, p1, p2, p3⟩ he hb
      obtain ⟨e2, a1, q⟩ := hob' j o0 p2
      have := hq j id p1 e2 a1
      rw [this] at he; cases he
      rcases q with ⟨q1, ob, q2, q3⟩ | ⟨q1, q2⟩
      · exact List.mem_map.2 ⟨_, q2, rfl⟩
      · rw [(renO_hasB (e := e) p3).1, q1] at hb; cases hb
    have blkO : ∀ id o e, M1.get id = some o → ρo id = some e → hasB e o = true → e.b ∈ (c.filter fun q => !B q).map (·.1) := by
      intro id o e p1 he hb
      obtain ⟨q1, q2⟩ := hM1 id o p1
      obtain ⟨e2, a1, q⟩ := hob id o q1
      rw [hle _ _ a1] at he; cases he
      rcases q with ⟨r1, ob, r2, r3⟩ | ⟨r1, r2⟩
      · refine List.mem_map.2 ⟨_, List.mem_filter.2 ⟨r2, ?_⟩, rfl⟩
        have : ¬ B (e.b, ob) = true := fun hb => by
          obtain ⟨p, s1, e3, o2, s2, s3, s4, s5⟩ := (hB _).1 hb
          exact q2 p s1 (hinj p.1 id e3 e o2 o s4 q1 s2 a1 s5 r1 s3)
        simpa using this
      · rw [r1] at hb; cases hb
    rcases hM2 i o hi with m1 | m1 <;> rcases hM2 j o' hj with m2 | m2
    · obtain ⟨j1, o1, p1, p2, p3⟩ := m1
      obtain ⟨j2, o2, r1, r2, r3⟩ := m2
      obtain ⟨e1, a1, _⟩ := hob' j1 o1 p2
      obtain ⟨e2, a2, _⟩ := hob' j2 o2 r2
      have x1 := hq _ _ p1 _ a1
      have x2 := hq _ _ r1 _ a2
      rw [x1] at he; cases he
      rw [x2] at hf; cases hf
      rw [(renO_hasB (e := e) p3).1] at hb1
      rw [(renO_hasB (e := f) r3).1] at hb2
      have := hinj' j1 j2 e f o1 o2 p2 r2 a1 a2 hb1 hb2 hb
      subst this
      exact news_inj g1 p1 r1
    · exact (ap _ (blkN i o e m1 he hb1) (by rw [hb]; exact blkO j o' f m2 hf hb2)).elim
    · exact (ap _ (blkN j o' f m2 hf hb2) (by rw [← hb]; exact blkO i o e m1 he hb1)).elim
    · obtain ⟨q1, _⟩ := hM1 i o m1
      obtain ⟨q2, _⟩ := hM1 j o' m2
      obtain ⟨e1, a1, _⟩ := hob i o q1
      obtain ⟨e2, a2, _⟩ := hob j o' q2
      rw [hle _ _ a1] at he; cases he
      rw [hle _ _ a2] at hf; cases hf
      exact hinj i j e f o o' q1 q2 a1 a2 hb1 hb2 hb
  · have : ¬ i < nx := by omega
    simp only [ρo, if_neg this]
    exact hs'.fresh _ (by omega)
theorem run_fun (hm : P.follows .mixedOrders = true) {cf : CallF} (hcf : CallOk P cf) {lp : LpF} {lf : Nat} {fl : Bool} {pk : Nat} {f N : Nat} {res : XRes} {body : XC} (hf : chkF P f (.mk N res body) = true) (hfl : fl = true → plain body = true) (hkp : keepB pk body = true) (hlp : ∀ b j x, (b, j, x) ∈ lpsOf body → LpOk P N pk lp b j x)
    {vs : List AV} {xs : List Value} (hE : EOk E) (h : Sim E ρ G F M nx w) (hd : denL E ρ vs = some xs) {K : AV → T → Nat → Bool} {R : Ending → World → Prop}
    (h2 : must (Nat.ble (lenL vs) N) (argsX vs 0 .nil fun S => codeX cf lp lf body S M nx fun e S M nx => ifB (Nat.blt 1 e) false (resX res S M fun v => K v M nx)) = true)
    (hr : ∀ v M' nx' E' ρ' w' z, K v M' nx' = true → Rel fl pk E ρ E' ρ' → Sim E' ρ' G F M' nx' w' → den E' ρ' v = some z → R (.returned z) w') : Calls P f xs.toArray w R := by
  unfold chkF at hf
  split at hf
  case h_2 => cases hf
  rename_i N' res' body' fn hx hfn
  cases hx
  split at hf
  case h_2 => cases hf
  rename_i c hb
  obtain ⟨hf, c3⟩ := and2 hf
  obtain ⟨c1, c2⟩ := and2 hf
  have c1 := Nat.eq_of_beq_eq_true c1
  obtain ⟨h3, h4⟩ := must_ok h2
  rw [Nat.ble_eq, lenL_eq] at h3
  have hlen := denL_len hd
  refine calls_of_wp hfn hb ?_
  have hsz : (xs.toArray ++ Array.replicate (fn.ntmps - xs.toArray.size) undef).size = N := by simp; omega
  obtain ⟨S, s, h5⟩ := argsX_ok (a := { tmps := xs.toArray ++ Array.replicate (fn.ntmps - xs.toArray.size) undef, defers := [] }) (N := N) hd (fun i x hi => by
    have hlt := (List.getElem?_eq_some_iff.1 hi).1
    have hv := (List.getElem?_eq_some_iff.1 hi).2
    simp only [Nat.zero_add, Array.getD, hsz]
    rw [dif_pos (by omega)]
    simp [Array.getElem_append, hlt, hv]) (SR.nil hsz rfl) h4
  refine codeX_ok hm hcf body c hE hfl hkp hlp c3 s h h5 fun e S' M' nx' E' ρ' a' w' k1 k2 k3 k4 => ?_
  rcases ifB_ok k1 with ⟨_, g1⟩ | ⟨q, g1⟩
  · cases g1
  · obtain ⟨v, z, r1, r2, r3⟩ := resX_ok k3 k4 c2 g1
    have hR := hr v M' nx' E' ρ' w' z r2 k2 k4 r1
    match e, q with
    | 0, _ => exact ⟨k3.defs, z, r3, hR⟩
    | 1, _ => exact ⟨k3.defs, z, r3, hR⟩
    | n + 2, q =>
      have : Nat.blt 1 (n + 2) = true := by rw [Nat.blt_eq]; omega
      rw [this] at q; cases q
theorem callX_ok (hm : P.follows .mixedOrders = true) {tab : Nat → Option XF} {nat : Nat → List AV → Option ES} {lp : LpF} {lf : Nat} (htab : ∀ f xf, tab f = some xf → chkF P f xf = true ∧ plain (bodyOf xf) = true) (hnat : ∀ f vs k sp, nat f vs = some (.mk k sp) → NatE P f k sp) : ∀ d, CallOk P (callX tab nat lp lf d)
  | 0 => by
    intro f vs M nx K E ρ G F w xs R hE h hd hk hr
    have hk' : (Option.casesOn (nat f vs) false fun es => ES.casesOn es fun k sp => natGo k sp vs M nx K : Bool) = true := hk
    rcases e : nat f vs with _ | ⟨k, sp⟩
    · rw [e] at hk'; cases hk'
    · rw [e] at hk'
      exact natGo_ok (hnat f vs k sp e) hE h hd hk' hr
  | d + 1 => by
    intro f vs M nx K E ρ G F w xs R hE h hd hk hr
    have hk' : (Option.casesOn (nat f vs) (atO (tab f) fun xf => XF.casesOn xf fun N res body =>
      must (Nat.ble (lenL vs) N) (argsX vs 0 .nil fun S => codeX (callX tab nat lp lf d) lp lf body S M nx fun e S M nx => ifB (Nat.blt 1 e) false (resX res S M fun v => K v M nx))) fun es => ES.casesOn es fun k sp => natGo k sp vs M nx K : Bool) = true := hk
    rcases e : nat f vs with _ | ⟨k, sp⟩
    · rw [e] at hk'
      obtain ⟨xf, h1, h2⟩ := atO_ok hk'
      obtain ⟨hf, hp⟩ := htab f xf h1
      obtain ⟨N, res, body⟩ := xf
      have hno : ∀ {x : XC}, plain x = true → lpsOf x = [] := by
        intro x
        induction x with
        | seq x y ihx ihy => intro q; obtain ⟨q1, q2⟩ := and2 (show (plain x && plain y) = true from q); simp [lpsOf, ihx q1, ihy q2]
        | cond p x y ihx ihy => intro q; obtain ⟨q1, q2⟩ := and2 (show (plain x && plain y) = true from q); simp [lpsOf, ihx q1, ihy q2]
        | block k x ih => exact fun q => ih q
        | loop l x ih => exact fun q => ih q
        | inv => intro q; cases q
        | aft => intro q; cases q
        | pre => intro q; cases q
        | spc => intro q; cases q
        | _ => intro _; rfl
      have hk0 : ∀ {x : XC}, plain x = true → keepB 0 x = true := by
        intro x
        induction x with
        | seq x y ihx ihy => intro q; obtain ⟨q1, q2⟩ := and2 (show (plain x && plain y) = true from q); simp [keepB, ihx q1, ihy q2]
        | cond p x y ihx ihy => intro q; obtain ⟨q1, q2⟩ := and2 (show (plain x && plain y) = true from q); simp [keepB, ihx q1, ihy q2]
        | block k x ih => exact fun q => ih q
        | loop l x ih => exact fun q => ih q
        | inv => intro q; cases q
        | aft => intro q; cases q
        | pre => intro q; cases q
        | spc => intro q; cases q
        | _ => intro _; rfl
      exact run_fun (fl := true) (pk := 0) hm (callX_ok hm htab hnat d) hf (fun _ => hp) (hk0 hp) (fun b j x q => by rw [hno (x := body) hp] at q; cases q) hE h hd h2 fun v M' nx' E' ρ' w' z q1 q2 => hr v M' nx' E' ρ' w' z q1 (q2.ext rfl)
    · rw [e] at hk'
      exact natGo_ok (hnat f vs k sp e) hE h hd hk' hr
theorem natE_of (hm : P.follows .mixedOrders = true) {cf : CallF} (hcf : CallOk P cf) {lp : LpF} {lf f k : Nat} {xf : XF} {sp : SpecE} (hf : chkF P f xf = true) (hkp : keepB k (bodyOf xf) = true) (hlp : ∀ b j x, (b, j, x) ∈ lpsOf (bodyOf xf) → LpOk P (nOf xf) k lp b j x) (hrun : ∀ us M nx K, sp us M nx K = true → funE k cf lp lf xf us M nx K = true) : NatE P f k sp := by
  intro us xs E ρ G F M nx w K R hE hs hd hk hr
  obtain ⟨N, res, body⟩ := xf
  refine run_fun (fl := false) (pk := k) (K := fun v M _ => canV k v M K) (G := G) hm hcf hf (fun q => by cases q) hkp hlp hE hs hd (hrun us M nx K hk) fun v M' nx' E' ρ' w' z q1 q2 q3 q4 => ?_
  obtain ⟨v2, M2, n2, ρ2, f1, f2, f3, f4⟩ := canV_ok q3 q4 q1
  exact hr v2 M2 n2 E' ρ2 w' z f3 q2.one q2.mem (fun i e i1 i2 => f4 i e i1 (q2.pin i e i1 i2)) f1 f2
end
noncomputable def shp (v : AV) : Nat := AV.casesOn v 0 (fun _ _ => 1) (fun _ => 2) (fun _ => 3) (fun _ _ => 4) (fun _ _ _ _ => 5) (fun _ => 6) 7 8 9 10 11 (fun _ _ => 12) (fun _ _ => 13) (fun _ => 14) (fun _ => 15) (fun _ => 16) (fun _ => 17) (fun s => SY.casesOn s (fun _ _ => 20) (fun _ => 21) (fun _ => 22) (fun _ _ _ _ _ => 23) (fun _ _ _ => 24) (fun _ _ => 25) (fun _ _ _ _ => 26) (fun _ _ _ _ => 27) (fun _ _ _ => 28) (fun _ => 29))
noncomputable def shpN (vs : List AV) (n : Nat) : Nat := Option.casesOn (nth vs n) 0 shp
noncomputable def hasL (vs : List AV) (l : List (Nat × Nat)) : Bool := List.rec true (fun p _ ih => Bool.rec false ih (Nat.beq (shpN vs p.1) p.2)) l
noncomputable def hasS (f g : Nat) (vs : List AV) (l : List (Nat × Nat)) : Bool := Bool.rec false (hasL vs l) (Nat.beq f g)
theorem nat_step {P : Program} {f g k k0 : Nat} {vs : List AV} {sp sp0 : SpecE} {rest : Option ES} {l : List (Nat × Nat)} (h0 : NatE P g k0 sp0) (hr : rest = some (.mk k sp) → NatE P f k sp) (h : (Bool.rec rest (some (ES.mk k0 sp0)) (hasS f g vs l) : Option ES) = some (.mk k sp)) : NatE P f k sp := by
  cases hb : hasS f g vs l with
  | false => rw [hb] at h; exact hr h
  | true =>
    rw [hb] at h
    cases h
    unfold hasS at hb
    cases he : Nat.beq f g with
    | false => rw [he] at hb; cases hb
    | true => rw [Nat.eq_of_beq_eq_true he]; exact h0
theorem ifB_use {p : Prop} {x y : Bool} (hp : p) (h : ifB (prB p) x y = true) : x = true := by
  rcases ifP_ok h with ⟨_, h⟩ | ⟨q, _⟩
  · exact h
  · exact absurd hp q
def encU (x : UInt8) : List PL := [.sint 1 (x.toNat : Int)]
def encT (s : List UInt8) : List PL := [.sstr s]
def BuildD (T b : Nat) (l : List UInt8) (c : Chunk) : Prop := ∃ p ao cap cr, (p = .pointer none ∨ p = .pointer (some ⟨b, 0, none⟩)) ∧ Row 5 1 ao l.length cap (l.map u8) cr ∧ c = (b, .cells #[p, .slice ao l.length cap] T (0, 0)) :: cr
def BuildS (T b : Nat) (l : List UInt8) (c : Chunk) : Prop := ∃ p ao cap cr, p = .pointer (some ⟨b, 0, none⟩) ∧ Row 5 1 ao l.length cap (l.map u8) cr ∧ c = (b, .cells #[p, .slice ao l.length cap] T (0, 0)) :: cr
theorem BuildS.d {T b : Nat} {l : List UInt8} {c : Chunk} : BuildS T b l c → BuildD T b l c := fun ⟨p, ao, cap, cr, h1, h2⟩ => ⟨p, ao, cap, cr, .inr h1, h2⟩
end Go.Sy
namespace Go.Eng
open Go Go.RowKit
section
variable {G : GS} {w : World} {F : List Chunk} {c : Chunk}
theorem Holds.pick1 {x : Nat × Obj} (h : Holds G w (c :: F)) (hm : x ∈ c) : Holds G w ([x] :: F) := by
  obtain ⟨s, t, rfl⟩ := List.append_of_mem hm
  have h2 : Holds G w ((s ++ t) :: [x] :: F) := h.perm (by
    simp only [List.flatten_cons]
    have p1 : (s ++ x :: t).Perm (x :: (s ++ t)) := List.perm_middle
    exact (List.perm_append_comm_assoc (s ++ t) [x] F.flatten).trans (p1.append_right F.flatten).symm)
  exact h2.drop
theorem Holds.pick2 {x y : Nat × Obj} (h : Holds G w (c :: F)) (hx : x ∈ c) (hy : y ∈ c) (hne : x.1 ≠ y.1) : Holds G w ((x :: [y]) :: F) := by
  obtain ⟨s, t, rfl⟩ := List.append_of_mem hx
  have hy2 : y ∈ s ++ t := by
    rcases List.mem_append.1 hy with q | q
    · exact List.mem_append.2 (.inl q)
    · rcases List.mem_cons.1 q with rfl | q
      · exact absurd rfl hne
      · exact List.mem_append.2 (.inr q)
  obtain ⟨s2, t2, e⟩ := List.append_of_mem hy2
  have h2 : Holds G w ((s2 ++ t2) :: (x :: [y]) :: F) := h.perm (by
    simp only [List.flatten_cons]
    have p1 : (s ++ x :: t).Perm (x :: (s ++ t)) := List.perm_middle
    rw [e] at p1
    have p2 : (s2 ++ y :: t2).Perm (y :: (s2 ++ t2)) := List.perm_middle
    have p3 : (s ++ x :: t).Perm ((x :: [y]) ++ (s2 ++ t2)) := p1.trans (p2.cons x)
    have p4 : ((s ++ x :: t) ++ F.flatten).Perm (((x :: [y]) ++ (s2 ++ t2)) ++ F.flatten) := p3.append_right _
    exact (List.perm_append_comm_assoc (s2 ++ t2) (x :: [y]) F.flatten).trans p4.symm)
  exact h2.drop
end
end Go.Eng
namespace Go.Sy
open Go Go.RowKit Go.Eng
section
variable {P : Program} {E : Env} {ρ : Ren} {G : GS} {F : List Chunk} {M : T} {nx : Nat} {w : World}
theorem Holds.withM {G G' : GS} {m : Mem} (hG : GS.Le { G with M := m } G') {H : List Chunk} (hh : Holds G' w H) : Holds { G with M := G'.M } w H := ⟨hh.os.trans hG.os, hh.tape.trans hG.tape, hh.output.trans hG.output, hh.mem, hh.own, hh.nodup, hh.apart⟩
theorem Sim.bare {G' : GS} {w' : World} (hs : Sim E ρ G F M nx w) (hG : GS.Le { G with M := E.M } G') (hh : Holds G' w' F) : Sim ⟨E.at_, G'.M⟩ (fun _ => none) G F .leaf 0 w' :=
  ⟨⟨[], (Holds.withM hG hh).nil, fun i o h => by simp [T.get_leaf] at h, fun i j e f o o' h => by simp [T.get_leaf] at h⟩, MLe.trans hs.mem (fun b o h => hG.mem b o h), fun _ _ => rfl⟩
abbrev ContE (k : Nat) (E : Env) (ρ : Ren) (G : GS) (F : List Chunk) (K : AV → T → Nat → Bool) (R : Ending → World → Prop) : Prop :=
  ∀ v M' nx' E' ρ' w' z, K v M' nx' = true → EOk E' → MLe E.M E'.M → (∀ i e, i < k → ρ i = some e → ρ' i = some e) → Sim E' ρ' G F M' nx' w' → den E' ρ' v = some z → R (.returned z) w'
theorem doneR {f : Nat} {xs : Array Value} {s : List UInt8} {K : AV → T → Nat → Bool} {R : Ending → World → Prop} (hE : EOk E) (hs : Sim E ρ G F M nx w) (hc : Calls P f xs w (Ret { G with M := E.M } F fun _ v => v = S s)) (hk : K (.sy (.str s)) .leaf 0 = true) (hr : ContE 0 E ρ G F K R) : Calls P f xs w R := by
  refine hc.mono fun e w' ⟨v, G', he, hG, hh, hv⟩ => ?_
  subst he; subst hv
  exact hr _ _ _ ⟨E.at_, G'.M⟩ (fun _ => none) w' _ hk ⟨hE.1, Tied.mono (fun b o h => hG.mem b o h) hE.2⟩ (fun b o h => hG.mem b o h) (fun i e h => absurd h (Nat.not_lt_zero i)) (hs.bare hG hh) rfl
theorem doneB {f : Nat} {xs : Array Value} {s : List UInt8} {K : AV → T → Nat → Bool} {R : Ending → World → Prop} (hE : EOk E) (hs : Sim E ρ G F M nx w) (hc : Calls P f xs w fun e w' => e = .returned (S s) ∧ Below w.heap.size w w') (hk : K (.sy (.str s)) .leaf 0 = true) (hr : ContE 0 E ρ G F K R) : Calls P f xs w R := by
  obtain ⟨c, hh, _, _⟩ := hs.ex
  exact doneR hE hs (hc.mono fun e w' ⟨he, hb⟩ => ⟨_, _, he, GS.Le.refl _, hh.drop.ext hb, rfl⟩) hk hr
noncomputable def zA (k : Nat) (v : AV) (K : Int → Bool) : Bool := match v with
  | .int j z => must (Nat.beq j k) (K z)
  | .sy (.int j z) => must (Nat.beq j k) (K z)
  | _ => false
theorem zA_ok {k : Nat} {v : AV} {K : Int → Bool} (h : zA k v K = true) : ∃ z, (∀ x, den E ρ v = some x → x = .int (kOf k) z) ∧ K z = true := by
  unfold zA at h
  split at h
  · obtain ⟨h1, h2⟩ := must_ok h
    have := Nat.eq_of_beq_eq_true h1
    subst this
    exact ⟨_, fun x hx => by simpa [den] using hx.symm, h2⟩
  · obtain ⟨h1, h2⟩ := must_ok h
    have := Nat.eq_of_beq_eq_true h1
    subst this
    exact ⟨_, fun x hx => by simpa [den, denS] using hx.symm, h2⟩
  · cases h
noncomputable def spN1 (k : Nat) (g : Int → List UInt8) : SpecE := fun us _ _ K => match us with
  | [v] => zA k v fun z => must (prB (InR k z)) (K (.sy (.str (g z))) .leaf 0)
  | _ => false
noncomputable def spN2 (k b : Nat) (g : Int → List UInt8) : SpecE := fun us _ _ K => match us with
  | [v, .int 0 (.ofNat n)] => must (Nat.beq n b) (zA k v fun z => must (prB (InR k z)) (K (.sy (.str (g z))) .leaf 0))
  | _ => false
theorem natE_N1 {f k : Nat} {g : Int → List UInt8} (hI : ∀ (z : Int) (G : GS) (w : World) (F : List Chunk), InR k z → Tied G.M → Holds G w F → Calls P f #[.int (kOf k) z] w (Ret G F fun _ v => v = S (g z))) : NatE P f 0 (spN1 k g) := by
  intro us xs E ρ G F M nx w K R hE hs hd hk hr
  unfold spN1 at hk
  split at hk
  case h_2 => cases hk
  rename_i v
  obtain ⟨x, ys, h1, h2, rfl⟩ := denL_cons hd
  obtain rfl : ys = [] := by simpa [denL] using h2.symm
  obtain ⟨z, hz, hk⟩ := zA_ok (E := E) (ρ := ρ) hk
  obtain ⟨hi, hk⟩ := mustP_ok hk
  obtain rfl := hz x h1
  obtain ⟨c, hh, _, _⟩ := hs.ex
  exact doneR hE hs (hI z { G with M := E.M } w F hi hE.2 hh.drop) hk hr
theorem natE_N2 {f k b : Nat} {g : Int → List UInt8} (hI : ∀ (z : Int) (G : GS) (w : World) (F : List Chunk), InR k z → Tied G.M → Holds G w F → Calls P f #[.int (kOf k) z, .int .i64 (b : Int)] w (Ret G F fun _ v => v = S (g z))) : NatE P f 0 (spN2 k b g) := by
  intro us xs E ρ G F M nx w K R hE hs hd hk hr
  unfold spN2 at hk
  split at hk
  case h_2 => cases hk
  rename_i v n
  obtain ⟨hb, hk1⟩ := must_ok hk
  have hb := Nat.eq_of_beq_eq_true hb
  subst hb
  obtain ⟨x, ys, h1, h2, rfl⟩ := denL_cons hd
  obtain ⟨x2, ys2, h3, h4, rfl⟩ := denL_cons h2
  obtain rfl : ys2 = [] := by simpa [denL] using h4.symm
  obtain rfl : x2 = .int .i64 (n : Int) := by simpa [den, kOf] using h3.symm
  obtain ⟨z, hz, hk2⟩ := zA_ok (E := E) (ρ := ρ) hk1
  obtain ⟨hi, hk⟩ := mustP_ok hk2
  obtain rfl := hz x h1
  obtain ⟨c, hh, _, _⟩ := hs.ex
  exact doneR hE hs (hI z { G with M := E.M } w F hi hE.2 hh.drop) hk hr
noncomputable def decF (fuel : Nat) : Nat → List Nat → List Nat := Nat.rec (fun _ acc => acc) (fun _ ih n acc => Bool.rec (ih (Nat.div n 10) (Nat.add 48 (Nat.mod n 10) :: acc)) (Nat.add 48 n :: acc) (Nat.blt n 10)) fuel
theorem decF_ok : ∀ (fuel n : Nat) (acc : List Nat), n < 10 ^ fuel → 0 < fuel → (decF fuel n acc).map UInt8.ofNat = Lib.decDigits n ++ acc.map UInt8.ofNat
  | 0, n, acc, h, h0 => by omega
  | fuel + 1, n, acc, h, _ => by
    have e : decF (fuel + 1) n acc = Bool.rec (decF fuel (n / 10) ((48 + n % 10) :: acc)) ((48 + n) :: acc) (Nat.blt n 10) := rfl
    cases hb : Nat.blt n 10 with
    | true =>
      have h9 := hb
      rw [Nat.blt_eq] at h9
      rw [e, hb, Lib.decDigits_one h9]
      rfl
    | false =>
      have hn : ¬ n < 10 := fun q => by rw [← Nat.blt_eq] at q; rw [q] at hb; cases hb
      rw [e, hb]
      show (decF fuel (n / 10) ((48 + n % 10) :: acc)).map UInt8.ofNat = _
      rcases Nat.eq_zero_or_pos fuel with rfl | hf
      · simp at h; omega
      · rw [decF_ok fuel (n / 10) _ (by rw [Nat.pow_succ] at h; omega) hf]
        conv => rhs; rw [Lib.decDigits, dif_neg hn]
        simp
noncomputable def spNL (k m : Nat) (tl : List AV → Bool) : SpecE := fun us _ _ K => match us with
  | .int j (.ofNat n) :: r => must (Nat.beq j k) (must (tl r) (must (prB (InR k (n : Int))) (must (Nat.blt n m) (K (.str (decF 20 n [])) .leaf 0))))
  | _ => false
noncomputable def tl0 (r : List AV) : Bool := match r with | [] => true | _ => false
theorem itoa_nat (n : Nat) : Lib.itoa (n : Int) = Lib.decDigits n := by
  unfold Lib.itoa
  rw [if_neg (by omega)]
  simp
theorem doneL {f : Nat} {xs : Array Value} {s : List Nat} {K : AV → T → Nat → Bool} {R : Ending → World → Prop} (hE : EOk E) (hs : Sim E ρ G F M nx w) (hc : Calls P f xs w (Ret { G with M := E.M } F fun _ v => v = S (s.map UInt8.ofNat))) (hk : K (.str s) .leaf 0 = true) (hr : ContE 0 E ρ G F K R) : Calls P f xs w R := by
  refine hc.mono fun e w' ⟨v, G', he, hG, hh, hv⟩ => ?_
  subst he; subst hv
  exact hr _ _ _ ⟨E.at_, G'.M⟩ (fun _ => none) w' _ hk ⟨hE.1, Tied.mono (fun b o h => hG.mem b o h) hE.2⟩ (fun b o h => hG.mem b o h) (fun i e h => absurd h (Nat.not_lt_zero i)) (hs.bare hG hh) rfl
theorem natE_NL {f k m : Nat} (hm : m ≤ 100000000000000000000) {tl : List AV → Bool} {ts : List Value} (ht : ∀ (E : Env) (ρ : Ren) (r : List AV) (xs : List Value), tl r = true → denL E ρ r = some xs → xs = ts) (hI : ∀ (n : Nat) (G : GS) (w : World) (F : List Chunk), n < m → InR k (n : Int) → Tied G.M → Holds G w F → Calls P f (Value.int (kOf k) (n : Int) :: ts).toArray w (Ret G F fun _ v => v = S (Lib.decDigits n))) : NatE P f 0 (spNL k m tl) := by
  intro us xs E ρ G F M nx w K R hE hs hd hk hr
  unfold spNL at hk
  split at hk
  case h_2 => cases hk
  rename_i j n r
  obtain ⟨q1, hk1⟩ := must_ok hk
  obtain ⟨q2, hk2⟩ := must_ok hk1
  obtain ⟨q3, hk3⟩ := mustP_ok hk2
  obtain ⟨q4, hk4⟩ := must_ok hk3
  have q1 := Nat.eq_of_beq_eq_true q1
  subst q1
  rw [Nat.blt_eq] at q4
  obtain ⟨x, ys, h1, h2, rfl⟩ := denL_cons hd
  obtain rfl := ht E ρ r ys q2 h2
  obtain rfl : x = .int (kOf j) (n : Int) := by simpa [den] using h1.symm
  obtain ⟨c, hh, _, _⟩ := hs.ex
  have := hI n { G with M := E.M } w F q4 q3 hE.2 hh.drop
  have e := decF_ok 20 n [] (Nat.lt_of_lt_of_le q4 (Nat.le_trans hm (by decide))) (by omega)
  rw [List.map_nil, List.append_nil] at e
  rw [← e] at this
  exact doneL hE hs this hk4 hr
theorem tl0_ok (E : Env) (ρ : Ren) (r : List AV) (xs : List Value) (h : tl0 r = true) (hd : denL E ρ r = some xs) : xs = [] := by
  unfold tl0 at h
  split at h
  · simpa [denL] using hd.symm
  · cases h
noncomputable def sA (v : AV) (K : List UInt8 → Bool) : Bool := match v with
  | .str l => K (l.map UInt8.ofNat)
  | .sy (.str l) => K l
  | _ => false
theorem sA_ok {v : AV} {K : List UInt8 → Bool} (h : sA v K = true) : ∃ s, den E ρ v = some (S s) ∧ K s = true := by
  unfold sA at h
  split at h
  · exact ⟨_, by simp [den], h⟩
  · exact ⟨_, by simp [den, denS], h⟩
  · cases h
noncomputable def wsA (l : List (List AV)) : (List (List UInt8) → Bool) → Bool := List.rec (fun K => K []) (fun e _ ih K => match e with
  | [v] => sA v fun s => ih fun ws => K (s :: ws)
  | _ => false) l
theorem wsA_ok : ∀ {l : List (List AV)} {K : List (List UInt8) → Bool}, wsA l K = true → ∃ ws vs, l = vs.map (fun v => [v]) ∧ denL E ρ vs = some (ws.map S) ∧ K ws = true
  | [], K, h => ⟨[], [], rfl, rfl, h⟩
  | e :: l, K, h => by
    have h' : (match (generalizing := false) e with
      | [v] => sA v fun s => wsA l fun ws => K (s :: ws)
      | _ => false) = true := h
    split at h'
    · obtain ⟨s, h1, h2⟩ := sA_ok (E := E) (ρ := ρ) h'
      obtain ⟨ws, vs, e1, e2, e3⟩ := wsA_ok h2
      exact ⟨s :: ws, _ :: vs, by simp [e1], denL_mk h1 e2, e3⟩
    · cases h'
noncomputable def capB (g : Bool) (n : Nat) (c : ACap) : Bool := match c with
  | .ex m => Nat.ble n m
  | .rest 0 => g
  | _ => false
noncomputable def joinK (ws : List (List UInt8)) (sep : List UInt8) (K : AV → T → Nat → Bool) : Bool := must (prB ((Lib.join ws sep).length ≤ 140737488355328)) (must (prB (ws.length ≤ 140737488355328)) (K (.sy (.str (Lib.join ws sep))) .leaf 0))
noncomputable def spJoin : SpecE := fun us M _ K => match us with
  | [a, s] => sA s fun sep => (match a with
    | .nilS => joinK [] sep K
    | .sl 0 0 n c => (match M.get 0 with
      | some (.blk g _ 1 els) => must (Nat.ble n (lenL els)) (must (capB g n c) (wsA (els.take n) fun ws => joinK ws sep K))
      | _ => false)
    | .sy (.prow 0 n) => (match M.get 0 with
      | some (.prow _ 1 _ l enc) => exB fun ws : List (List UInt8) => must (prB (l.map enc = ws.map encT)) (must (prB (n = ws.length)) (joinK ws sep K))
      | _ => false)
    | .sy (.imm _ 1 _ l enc) => exB fun ws : List (List UInt8) => must (prB (l.map enc = ws.map encT)) (joinK ws sep K)
    | _ => false)
  | _ => false
theorem flatMap_encT {α : Type} {l : List α} {enc : α → List PL} {ws : List (List UInt8)} (h : l.map enc = ws.map encT) : l.flatMap enc = ws.map PL.sstr := by
  rw [List.flatMap_def, h]
  clear h
  induction ws with
  | nil => rfl
  | cons a r ih =>
    show PL.sstr a :: (List.map encT r).flatten = PL.sstr a :: List.map PL.sstr r
    rw [ih]
theorem flatMap_encU {α : Type} {l : List α} {enc : α → List PL} {ws : List UInt8} (h : l.map enc = ws.map encU) : l.flatMap enc = ws.map fun x => PL.sint 1 (x.toNat : Int) := by
  rw [List.flatMap_def, h]
  clear h
  induction ws with
  | nil => rfl
  | cons a r ih =>
    show PL.sint 1 (a.toNat : Int) :: (List.map encU r).flatten = PL.sint 1 (a.toNat : Int) :: List.map (fun x => PL.sint 1 (x.toNat : Int)) r
    rw [ih]
theorem take_at {α : Type} {l : List α} {m j : Nat} {y : α} (h : (l.take m)[j]? = some y) : l[j]? = some y := by
  rw [List.getElem?_take] at h
  split at h
  · exact h
  · cases h
theorem natE_join {f : Nat} (hJ : ∀ (bk o c : Nat) (ws : List (List UInt8)) (sep : List UInt8) (w : World), (∀ (j : Nat) x, ws[j]? = some x → w.cell? ⟨bk, o + j, none⟩ = some (S x)) → bk < w.heap.size → ws.length ≤ 140737488355328 → ws.length ≤ c → (Lib.join ws sep).length ≤ 140737488355328 →
      Calls P f #[.slice (some ⟨bk, o, none⟩) ws.length c, S sep] w fun e w' => e = .returned (S (Lib.join ws sep)) ∧ Below w.heap.size w w')
    (hN : ∀ (a : Option Addr) (c : Nat) (sep : List UInt8) (w : World), Calls P f #[.slice a 0 c, S sep] w fun e w' => e = .returned (S (Lib.join [] sep)) ∧ Below w.heap.size w w') : NatE P f 0 spJoin := by
  intro us xs E ρ G F M nx w K R hE hs hd hk hr
  unfold spJoin at hk
  split at hk
  case h_2 => cases hk
  rename_i a s
  obtain ⟨xa, ys, d1, d2, rfl⟩ := denL_cons hd
  obtain ⟨xs', ys2, d3, d4, rfl⟩ := denL_cons d2
  obtain rfl : ys2 = [] := by simpa [denL] using d4.symm
  obtain ⟨sep, e1, hk1⟩ := sA_ok (E := E) (ρ := ρ) hk
  clear hk
  have hk := hk1
  clear hk1
  obtain rfl : xs' = S sep := Option.some.inj (d3.symm.trans e1)
  split at hk
  · obtain rfl : xa = .slice none 0 0 := by simpa [den] using d1.symm
    obtain ⟨l1, hk⟩ := mustP_ok hk
    obtain ⟨l2, hk⟩ := mustP_ok hk
    exact doneB hE hs (hN none 0 sep w) hk hr
  · rename_i n c
    split at hk
    case h_2 => cases hk
    rename_i g T els hM
    obtain ⟨hn, hk⟩ := must_ok hk
    obtain ⟨hc, hk⟩ := must_ok hk
    obtain ⟨ws, vs, e2, e3, hk⟩ := wsA_ok (E := E) (ρ := ρ) hk
    obtain ⟨l1, hk⟩ := mustP_ok hk
    obtain ⟨l2, hk⟩ := mustP_ok hk
    rw [lenL_eq, Nat.ble_eq] at hn
    obtain ⟨e, ob, r0, hheap, _, _, arr, xs0, rfl, hdd, hR⟩ := hs.obj hM (fun _ => rfl)
    obtain rfl : xa = .slice (some ⟨e.b, 0, none⟩) n (capOf e c) := by simpa [den, r0] using d1.symm
    have hlv : vs.length = n := by
      have := congrArg List.length e2
      simpa [hn] using this.symm
    have hlw : ws.length = n := by
      have := denL_len e3
      simpa [hlv] using this
    have hsp : els.flatten = vs ++ (els.drop n).flatten := by
      conv => lhs; rw [← List.take_append_drop n els, List.flatten_append, e2]
      congr 1
      clear e2 e3 hlv
      induction vs with
      | nil => rfl
      | cons v r ih => simpa using ih
    rw [hsp] at hdd
    obtain ⟨xs1, xs2, f1, f2, rfl⟩ := denL_split hdd
    obtain rfl : xs1 = ws.map S := Option.some.inj (f1.symm.trans e3)
    have hcell : ∀ (j : Nat) x, ws[j]? = some x → arr.toList[j]? = some (S x) := by
      intro j x hx
      have hj : (ws.map S ++ xs2)[j]? = some (S x) := by
        rw [List.getElem?_append_left (by rw [List.length_map]; exact (List.getElem?_eq_some_iff.1 hx).1)]
        simp [hx]
      cases g with
      | false => exact (show arr.toList = _ from hR) ▸ hj
      | true =>
        obtain ⟨_, q, _⟩ := (show arr.size = e.cap * 1 ∧ arr.toList.take (els.length * 1) = ws.map S ++ xs2 ∧ els.length ≤ e.cap ∧ e.cap ≤ maxLen from hR)
        rw [← q] at hj
        exact take_at hj
    have hcap : n ≤ capOf e c := by
      unfold capB at hc
      split at hc
      · exact Nat.le_of_ble_eq_true hc
      · subst hc
        obtain ⟨_, _, q, _⟩ := (show arr.size = e.cap * 1 ∧ arr.toList.take (els.length * 1) = ws.map S ++ xs2 ∧ els.length ≤ e.cap ∧ e.cap ≤ maxLen from hR)
        show n ≤ e.cap - 0
        omega
      · cases hc
    have := hJ e.b 0 (capOf e c) ws sep w (fun j x hx => by
      have := hcell j x hx
      simp only [World.cell?, hheap, Nat.zero_add]
      simpa using this) (lt_of_heap hheap) l2 (by omega) l1
    rw [hlw] at this
    exact doneB hE hs this hk hr
  · rename_i n
    split at hk
    case h_2 => cases hk
    rename_i T α l enc hM
    obtain ⟨ws, hk2⟩ := exB_ok hk
    obtain ⟨e2, hk3⟩ := mustP_ok hk2
    obtain ⟨en, hk4⟩ := mustP_ok hk3
    obtain ⟨l1, hk5⟩ := mustP_ok hk4
    obtain ⟨l2, hk6⟩ := mustP_ok hk5
    clear hk hk2 hk3 hk4 hk5
    subst en
    have hll : l.length = ws.length := by simpa using congrArg List.length e2
    obtain ⟨e, r0, ⟨hB, ob, hheap, arr, xs0, rfl, _, _, hdd, hsz, htk, hle, hmx⟩ | ⟨hB, hnil, _⟩⟩ := hs.objP hM
    · obtain ⟨cc, hcc⟩ : ∃ cc, e.cap = cc + 1 := by
        rcases h0 : e.cap with _ | cc
        · simp [hasB, h0] at hB
        · exact ⟨cc, rfl⟩
      obtain rfl : xa = .slice (some ⟨e.b, 0, none⟩) ws.length cc := by simpa [den, denS, r0, hdrP, hcc] using d1.symm
      rw [flatMap_encT e2] at hdd
      obtain ⟨_, rfl⟩ := denPs_some hdd
      have := hJ e.b 0 cc ws sep w (fun j x hx => by
        have hj : ((ws.map PL.sstr).map valP)[j]? = some (S x) := by simp [hx, valP]
        rw [← htk] at hj
        have := take_at hj
        simp only [World.cell?, hheap, Nat.zero_add]
        simpa using this) (lt_of_heap hheap) l2 (by omega) l1
      exact doneB hE hs this hk6 hr
    · have hc0 : e.cap = 0 := by simpa [hasB] using hB
      subst hnil
      obtain rfl : ws = [] := by simpa using e2.symm
      obtain rfl : xa = .slice none 0 0 := by simpa [den, denS, r0, hdrP, hc0] using d1.symm
      exact doneB hE hs (hN none 0 sep w) hk6 hr
  · rename_i h α l enc
    obtain ⟨ws, hk⟩ := exB_ok hk
    obtain ⟨e2, hk⟩ := mustP_ok hk
    obtain ⟨l1, hk⟩ := mustP_ok hk
    obtain ⟨l2, hk⟩ := mustP_ok hk
    have hll : l.length = ws.length := by simpa using congrArg List.length e2
    obtain ⟨ok, rfl⟩ := denP_some (show denP E (.imm h 1 α l enc) = some xa by simpa [den, denS] using d1)
    cases ok with
    | imm ao cap hh h1 h2 h3 ha hl ho hr2 =>
      subst hh
      show Calls P f #[.slice ao l.length cap, S sep] w R
      rcases Nat.eq_zero_or_pos l.length with h0 | h0
      · obtain rfl : ws = [] := List.eq_nil_of_length_eq_zero (by omega)
        rw [h0]
        exact doneB hE hs (hN ao cap sep w) hk hr
      · have hc : ∀ (j : Nat) x, ws[j]? = some x → w.cell? ⟨blk ao, ofs ao + j, none⟩ = some (S x) := by
          intro j x hx
          have e3 : (l.map enc)[j]? = some (encT x) := by rw [e2]; simp [hx]
          rw [List.getElem?_map, Option.map_eq_some_iff] at e3
          obtain ⟨y, hy, e4⟩ := e3
          have := hr2 j y hy 0 (S x) (by rw [e4]; rfl)
          simp only [Nat.mul_one, Nat.add_zero] at this
          exact hs.cellM this
        have hb : blk ao < w.heap.size := by
          obtain ⟨x, hx⟩ : ∃ x, ws[0]? = some x := ⟨ws[0]'(by omega), by simp⟩
          have := hc 0 x hx
          unfold World.cell? at this
          rcases hh : w.heap[blk ao]? with _ | o
          · simp [hh] at this
          · exact lt_of_heap hh
        have := hJ (blk ao) (ofs ao) cap ws sep w hc hb l2 (by omega) l1
        rw [← ha h0, ← hll] at this
        exact doneB hE hs this hk hr
  · cases hk
noncomputable def bufA (M : T) (b0 : AV) (K : List UInt8 → Bool) : Bool := match b0 with
  | .nilS => K []
  | .sy (.prow 1 n) => (match M.get 1 with
    | some (.prow 5 1 _ l enc) => exB fun s : List UInt8 => must (prB (l.map enc = s.map encU)) (must (prB (n = s.length)) (K s))
    | _ => false)
  | _ => false
noncomputable def isA0 (a0 : AV) : Bool := match a0 with
  | .nilP => true
  | .ptr 0 0 => true
  | _ => false
noncomputable def mB (Ty : Nat) (s : List UInt8) (n : Nat) : T := .node (.node .leaf (some (.prow 5 1 UInt8 s encU)) .leaf) (some (.blk false Ty 2 [[.ptr 0 0, .sy (.prow 1 n)]])) .leaf
noncomputable def anyB (n : Nat) (l : List Nat) : Bool := List.rec false (fun m _ ih => Bool.rec ih true (Nat.beq n m)) l
theorem anyB_ok : ∀ {n : Nat} {l : List Nat}, anyB n l = true → n ∈ l
  | n, [], h => by cases h
  | n, m :: l, h => by
    have h' : (Bool.rec (anyB n l) true (Nat.beq n m) : Bool) = true := h
    cases hb : Nat.beq n m with
    | true => rw [Nat.eq_of_beq_eq_true hb]; simp
    | false => rw [hb] at h'; exact List.mem_cons_of_mem _ (anyB_ok h')
noncomputable def spWrite (Ts : List Nat) : SpecE := fun us M _ K => match us with
  | [.ptr 0 0, s] => (match M.get 0 with
    | some (.blk false Ty 2 [[a0, b0]]) => must (anyB Ty Ts) (must (isA0 a0) (bufA M b0 fun l => sA s fun t => must (prB (l.length + t.length ≤ 140737488355328)) (K (.tup [.sy (.int 0 (t.length : Int)), .nilI]) (mB Ty (l ++ t) (l ++ t).length) 2)))
    | _ => false)
  | _ => false
noncomputable def spByte (Ts : List Nat) : SpecE := fun us M _ K => match us with
  | [.ptr 0 0, c] => (match M.get 0 with
    | some (.blk false Ty 2 [[a0, b0]]) => must (anyB Ty Ts) (must (isA0 a0) (bufA M b0 fun l => zA 1 c fun z => must (prB (InR 1 z)) (must (prB (l.length + 1 ≤ 140737488355328)) (K .nilI (mB Ty (l ++ [UInt8.ofNat z.toNat]) (l ++ [UInt8.ofNat z.toNat]).length) 2))))
    | _ => false)
  | _ => false
noncomputable def spGet (Ts : List Nat) : SpecE := fun us M _ K => match us with
  | [.ptr 0 0] => (match M.get 0 with
    | some (.blk false Ty 2 [[a0, b0]]) => must (anyB Ty Ts) (must (isA0 a0) (match b0 with
      | .nilS => K (.sy (.str [])) .leaf 0
      | .sy (.prow 1 n) => bufA M b0 fun l => must (prB (l ≠ [])) (K (.sy (.str l)) .leaf 0)
      | _ => false))
    | _ => false)
  | _ => false
theorem bufA_ok {M : T} {b0 : AV} {K : List UInt8 → Bool} (h : bufA M b0 K = true) : ∃ s, ((b0 = .nilS ∧ s = []) ∨ (b0 = .sy (.prow 1 s.length) ∧ ∃ α l, ∃ enc : α → List PL, M.get 1 = some (.prow 5 1 α l enc) ∧ l.map enc = s.map encU)) ∧ K s = true := by
  unfold bufA at h
  split at h
  · exact ⟨[], .inl ⟨rfl, rfl⟩, h⟩
  · split at h
    case h_2 => cases h
    rename_i α l enc hM
    obtain ⟨s, h2⟩ := exB_ok h
    obtain ⟨e1, h3⟩ := mustP_ok h2
    obtain ⟨en, h4⟩ := mustP_ok h3
    subst en
    exact ⟨s, .inr ⟨rfl, α, l, enc, hM, e1⟩, h4⟩
  · cases h
theorem isA0_ok {a0 : AV} (h : isA0 a0 = true) : a0 = .nilP ∨ a0 = .ptr 0 0 := by
  unfold isA0 at h
  split at h
  · exact .inl rfl
  · exact .inr rfl
  · cases h
theorem build_in (hs : Sim E ρ G F M nx w) {Ty : Nat} {a0 b0 : AV} {s : List UInt8} (h0 : M.get 0 = some (.blk false Ty 2 [[a0, b0]])) (ha : a0 = .nilP ∨ a0 = .ptr 0 0)
    (hb : (b0 = .nilS ∧ s = []) ∨ (b0 = .sy (.prow 1 s.length) ∧ ∃ α l, ∃ enc : α → List PL, M.get 1 = some (.prow 5 1 α l enc) ∧ l.map enc = s.map encU)) :
    ∃ e p ao cap cr, ρ 0 = some e ∧ (p = .pointer none ∨ p = .pointer (some ⟨e.b, 0, none⟩)) ∧ Row 5 1 ao s.length cap (s.map u8) cr ∧ (b0 = .nilS → ao = none) ∧ Holds { G with M := E.M } w (((e.b, .cells #[p, .slice ao s.length cap] Ty (0, 0)) :: cr) :: F) := by
  obtain ⟨c0, hh, ho, hj⟩ := hs.ex
  obtain ⟨e, r0, ⟨_, ob, hm, _, _, arr, xs, rfl, hd, hR⟩ | ⟨q, _⟩⟩ := ho 0 _ h0
  case inr => cases q
  have hR : arr.toList = xs := hR
  obtain ⟨x0, ys, d0, d1, rfl⟩ := denL_cons (show denL E ρ [a0, b0] = some xs from hd)
  obtain ⟨x1, zs, d2, d3, rfl⟩ := denL_cons d1
  obtain rfl : zs = [] := by simpa [denL] using d3.symm
  have harr : arr = #[x0, x1] := Array.toList_inj.1 hR
  subst harr
  have hp : x0 = .pointer none ∨ x0 = .pointer (some ⟨e.b, 0, none⟩) := by
    rcases ha with rfl | rfl
    · exact .inl (by simpa [den] using d0.symm)
    · exact .inr (by simpa [den, r0] using d0.symm)
  rcases hb with ⟨rfl, rfl⟩ | ⟨rfl, α, l, enc, hM, e1⟩
  · obtain rfl : x1 = .slice none 0 0 := by simpa [den] using d2.symm
    exact ⟨e, x0, none, 0, [], r0, hp, Row.nil 5 1, fun _ => rfl, hh.pick1 hm⟩
  · have hll : l.length = s.length := by simpa using congrArg List.length e1
    obtain ⟨f, r1, ⟨hB, ob1, hm1, arr1, xs1, rfl, _, _, hdd, hsz, htk, hle, hmx⟩ | ⟨hB, hnil, _⟩⟩ := ho 1 _ hM
    · obtain ⟨cc, hcc⟩ : ∃ cc, f.cap = cc + 1 := by
        rcases h0 : f.cap with _ | cc
        · simp [hasB, h0] at hB
        · exact ⟨cc, rfl⟩
      obtain rfl : x1 = .slice (some ⟨f.b, 0, none⟩) s.length cc := by simpa [den, denS, r1, hdrP, hcc] using d2.symm
      rw [flatMap_encU e1] at hdd
      obtain ⟨_, rfl⟩ := denPs_some hdd
      have hne : e.b ≠ f.b := fun q => by
        have := hj 0 1 e f _ _ h0 hM r0 r1 rfl hB q
        omega
      refine ⟨e, x0, _, cc, [(f.b, .cells arr1 5 (0, 0))], r0, hp, ⟨by simp, .inr ⟨f.b, arr1, rfl, rfl, by omega, by omega, by rw [hsz, hcc]; simp, ?_⟩⟩, fun q => (by cases q), hh.pick2 hm hm1 hne⟩
      rw [← hll, htk]
      simp [valP, kOf, u8, Function.comp_def]
    · have hc0 : f.cap = 0 := by simpa [hasB] using hB
      subst hnil
      obtain rfl : s = [] := by simpa using e1.symm
      obtain rfl : x1 = .slice none 0 0 := by simpa [den, denS, r1, hdrP, hc0] using d2.symm
      exact ⟨e, x0, none, 0, [], r0, hp, Row.nil 5 1, fun _ => rfl, hh.pick1 hm⟩
theorem mB_get (Ty : Nat) (s : List UInt8) (n : Nat) : ∀ i o, (mB Ty s n).get i = some o → (i = 0 ∧ o = .blk false Ty 2 [[.ptr 0 0, .sy (.prow 1 n)]]) ∨ (i = 1 ∧ o = .prow 5 1 UInt8 s encU)
  | 0, o, h => by cases h; exact .inl ⟨rfl, rfl⟩
  | 1, o, h => by cases h; exact .inr ⟨rfl, rfl⟩
  | m + 2, o, h => by
    exfalso
    unfold mB at h
    rcases Nat.mod_two_eq_zero_or_one (m + 1) with q | q
    · rw [T.get_even _ _ _ _ q] at h
      obtain ⟨k, hk⟩ : ∃ k, (m + 1) / 2 = k + 1 := ⟨(m + 1) / 2 - 1, by omega⟩
      rw [hk] at h
      rcases Nat.mod_two_eq_zero_or_one k with q | q
      · rw [T.get_even _ _ _ _ q, T.get_leaf] at h; cases h
      · rw [T.get_odd _ _ _ _ q, T.get_leaf] at h; cases h
    · rw [T.get_odd _ _ _ _ q, T.get_leaf] at h; cases h
theorem build_out (hs : Sim E ρ G F M nx w) {G' : GS} {w' : World} {Ty : Nat} {e : REnt} {s : List UInt8} {c : Chunk} (hG : GS.Le { G with M := E.M } G') (hh : Holds G' w' (c :: F)) (hb : BuildS Ty e.b s c) :
    ∃ ρ', ρ' 0 = some e ∧ Sim ⟨E.at_, G'.M⟩ ρ' G F (mB Ty s s.length) 2 w' := by
  obtain ⟨p, ao, cap, cr, rfl, hr, rfl⟩ := hb
  have hh := Holds.withM hG hh
  have hm : MLe G.M G'.M := MLe.trans hs.mem (fun b o h => hG.mem b o h)
  have key : ∀ f : REnt, ((hasB f (.prow 5 1 UInt8 s encU) = true ∧ f.b ≠ e.b ∧ ∃ ob, (f.b, ob) ∈ cr ∧ ORel ⟨E.at_, G'.M⟩ (fun i => match i with | 0 => some e | 1 => some f | _ => none) f (.prow 5 1 UInt8 s encU) ob) ∨ (hasB f (.prow 5 1 UInt8 s encU) = false ∧ s = [])) → hdrP f s.length = some (.slice ao s.length cap) →
      ∃ ρ' : Ren, ρ' 0 = some e ∧ Sim ⟨E.at_, G'.M⟩ ρ' G F (mB Ty s s.length) 2 w' := by
    intro f hf hv
    refine ⟨fun i => match i with | 0 => some e | 1 => some f | _ => none, rfl, ⟨_, hh, fun i o hi => ?_, fun i j e1 e2 o1 o2 hi hj he1 he2 hb1 hb2 hb => ?_⟩, hm, fun i hi => ?_⟩
    · rcases mB_get _ _ _ i o hi with ⟨rfl, rfl⟩ | ⟨rfl, rfl⟩
      · refine ⟨e, rfl, .inl ⟨rfl, _, List.mem_cons_self, fun l hl => ?_, by decide, _, _, rfl, ?_, rfl⟩⟩
        · simp only [List.mem_cons, List.not_mem_nil, or_false] at hl
          subst hl; rfl
        · simp [denL, den, denS, hv]
      · refine ⟨f, rfl, ?_⟩
        rcases hf with ⟨h1, _, ob, h2, h3⟩ | ⟨h1, h2⟩
        · exact .inl ⟨h1, ob, List.mem_cons_of_mem _ h2, h3⟩
        · exact .inr ⟨h1, h2, by decide⟩
    · rcases mB_get _ _ _ i o1 hi with ⟨rfl, rfl⟩ | ⟨rfl, rfl⟩ <;> rcases mB_get _ _ _ j o2 hj with ⟨rfl, rfl⟩ | ⟨rfl, rfl⟩
      · rfl
      · cases he1; cases he2
        rcases hf with ⟨_, h1, _⟩ | ⟨h1, _⟩
        · exact absurd hb.symm h1
        · rw [h1] at hb2; cases hb2
      · cases he1; cases he2
        rcases hf with ⟨_, h1, _⟩ | ⟨h1, _⟩
        · exact absurd hb h1
        · rw [h1] at hb1; cases hb1
      · rfl
    · match i, hi with
      | m + 2, _ => rfl
  rcases hr.form with ⟨rfl, h0, rfl, rfl⟩ | ⟨g, cur, rfl, rfl, h1, h2, h3, h4⟩
  · have : s = [] := List.eq_nil_of_length_eq_zero h0
    subst this
    exact key ⟨0, 0⟩ (.inr ⟨rfl, rfl⟩) rfl
  · refine key ⟨g, cap + 1⟩ (.inl ⟨rfl, ?_, _, List.mem_cons_self, cur, s.map u8, rfl, by decide, fun x _ => rfl, ?_, by simpa using h3, by simpa using h4, by simpa using h1, by simpa using h2⟩) (by simp [hdrP])
    · intro q
      have := hh.nodup
      simp only [List.flatten_cons, List.cons_append, List.nil_append, List.map_cons, List.nodup_cons, List.mem_cons] at this
      exact this.1 (.inl q.symm)
    · have e1 : s.flatMap encU = s.map fun x => PL.sint 1 (x.toNat : Int) := flatMap_encU rfl
      rw [e1, denPs_mk (fun p hp => by obtain ⟨x, _, rfl⟩ := List.mem_map.1 hp; exact .sint _ _)]
      simp [valP, kOf, u8, Function.comp_def]
theorem natE_write {f : Nat} {Ts : List Nat} {BT : Nat → Prop} (hT : ∀ Ty ∈ Ts, BT Ty) (hW : ∀ (Ty b : Nat) (l : List UInt8) (c : Chunk) (t : List UInt8) (G : GS) (w : World) (F : List Chunk), BT Ty → BuildD Ty b l c → l.length + t.length ≤ 140737488355328 → Holds G w (c :: F) →
      Calls P f #[.pointer (some ⟨b, 0, none⟩), S t] w (RetO G F fun _ v c1 => v = .tuple #[.int .i64 (t.length : Int), .nilIface] ∧ BuildS Ty b (l ++ t) c1)) : NatE P f 1 (spWrite Ts) := by
  intro us xs E ρ G F M nx w K R hE hs hd hk hr
  unfold spWrite at hk
  split at hk
  case h_2 => cases hk
  rename_i s
  split at hk
  case h_2 => cases hk
  rename_i Ty a0 b0 hM
  obtain ⟨q1, hk⟩ := must_ok hk
  obtain ⟨q2, hk⟩ := must_ok hk
  obtain ⟨l, q3, hk⟩ := bufA_ok hk
  obtain ⟨t, q4, hk⟩ := sA_ok (E := E) (ρ := ρ) hk
  obtain ⟨q5, hk⟩ := mustP_ok hk
  obtain ⟨e, p, ao, cap, cr, r0, hp, hrow, _, hh⟩ := build_in hs hM (isA0_ok q2) q3
  obtain ⟨x0, ys, d1, d2, rfl⟩ := denL_cons hd
  obtain ⟨x1, ys2, d3, d4, rfl⟩ := denL_cons d2
  obtain rfl : ys2 = [] := by simpa [denL] using d4.symm
  obtain rfl : x1 = S t := Option.some.inj (d3.symm.trans q4)
  obtain rfl : x0 = .pointer (some ⟨e.b, 0, none⟩) := by simpa [den, r0] using d1.symm
  refine (hW Ty e.b l _ t { G with M := E.M } w F (hT _ (anyB_ok q1)) ⟨p, ao, cap, cr, hp, hrow, rfl⟩ q5 hh).mono fun e' w' ⟨v, G', c', he, hG, hh', hv, hb⟩ => ?_
  subst he; subst hv
  obtain ⟨ρ', r1, hs'⟩ := build_out hs hG hh' hb
  refine hr _ _ _ ⟨E.at_, G'.M⟩ ρ' w' _ hk ⟨hE.1, Tied.mono (fun b o h => hG.mem b o h) hE.2⟩ (fun b o h => hG.mem b o h) (fun i e2 hi he2 => ?_) hs' (by simp [den, denL, denS, kOf])
  obtain rfl : i = 0 := by omega
  rw [r0] at he2; cases he2; exact r1
theorem natE_byte {f : Nat} {Ts : List Nat} {BT : Nat → Prop} (hT : ∀ Ty ∈ Ts, BT Ty) (hW : ∀ (Ty b : Nat) (l : List UInt8) (c : Chunk) (z : Int) (G : GS) (w : World) (F : List Chunk), BT Ty → BuildD Ty b l c → 0 ≤ z ∧ z ≤ 255 → l.length + 1 ≤ 140737488355328 → Holds G w (c :: F) →
      Calls P f #[.pointer (some ⟨b, 0, none⟩), .int .u8 z] w (RetO G F fun _ v c1 => v = .nilIface ∧ BuildS Ty b (l ++ [UInt8.ofNat z.toNat]) c1)) : NatE P f 1 (spByte Ts) := by
  intro us xs E ρ G F M nx w K R hE hs hd hk hr
  unfold spByte at hk
  split at hk
  case h_2 => cases hk
  rename_i s
  split at hk
  case h_2 => cases hk
  rename_i Ty a0 b0 hM
  obtain ⟨q1, hk⟩ := must_ok hk
  obtain ⟨q2, hk⟩ := must_ok hk
  obtain ⟨l, q3, hk⟩ := bufA_ok hk
  obtain ⟨z, q4, hk⟩ := zA_ok (E := E) (ρ := ρ) hk
  obtain ⟨q6, hk⟩ := mustP_ok hk
  obtain ⟨q5, hk⟩ := mustP_ok hk
  obtain ⟨e, p, ao, cap, cr, r0, hp, hrow, _, hh⟩ := build_in hs hM (isA0_ok q2) q3
  obtain ⟨x0, ys, d1, d2, rfl⟩ := denL_cons hd
  obtain ⟨x1, ys2, d3, d4, rfl⟩ := denL_cons d2
  obtain rfl : ys2 = [] := by simpa [denL] using d4.symm
  obtain rfl := q4 x1 d3
  obtain rfl : x0 = .pointer (some ⟨e.b, 0, none⟩) := by simpa [den, r0] using d1.symm
  refine (hW Ty e.b l _ z { G with M := E.M } w F (hT _ (anyB_ok q1)) ⟨p, ao, cap, cr, hp, hrow, rfl⟩ q6 q5 hh).mono fun e' w' ⟨v, G', c', he, hG, hh', hv, hb⟩ => ?_
  subst he; subst hv
  obtain ⟨ρ', r1, hs'⟩ := build_out hs hG hh' hb
  refine hr _ _ _ ⟨E.at_, G'.M⟩ ρ' w' _ hk ⟨hE.1, Tied.mono (fun b o h => hG.mem b o h) hE.2⟩ (fun b o h => hG.mem b o h) (fun i e2 hi he2 => ?_) hs' (by simp [den])
  obtain rfl : i = 0 := by omega
  rw [r0] at he2; cases he2; exact r1
theorem natE_get {f : Nat} {Ts : List Nat} {BT : Nat → Prop} (hT : ∀ Ty ∈ Ts, BT Ty) (hW : ∀ (Ty b : Nat) (l : List UInt8) (c : Chunk) (G : GS) (w : World) (F : List Chunk), BT Ty → BuildC Ty b l c → Holds G w (c :: F) →
      Calls P f #[.pointer (some ⟨b, 0, none⟩)] w (Ret G F fun _ v => v = S l)) : NatE P f 0 (spGet Ts) := by
  intro us xs E ρ G F M nx w K R hE hs hd hk hr
  unfold spGet at hk
  split at hk
  case h_2 => cases hk
  split at hk
  case h_2 => cases hk
  rename_i Ty a0 b0 hM
  obtain ⟨q1, hk⟩ := must_ok hk
  obtain ⟨q2, hk⟩ := must_ok hk
  obtain ⟨x0, ys, d1, d2, rfl⟩ := denL_cons hd
  obtain rfl : ys = [] := by simpa [denL] using d2.symm
  split at hk
  · obtain ⟨e, p, ao, cap, cr, r0, hp, hrow, hn, hh⟩ := build_in (s := []) hs hM (isA0_ok q2) (.inl ⟨rfl, rfl⟩)
    obtain rfl : x0 = .pointer (some ⟨e.b, 0, none⟩) := by simpa [den, r0] using d1.symm
    exact doneR hE hs (hW Ty e.b [] _ { G with M := E.M } w F (hT _ (anyB_ok q1)) ⟨p, ao, cap, cr, hp, hrow, fun _ => hn rfl, rfl⟩ hh) hk hr
  · obtain ⟨l, q3, hk⟩ := bufA_ok hk
    obtain ⟨q5, hk⟩ := mustP_ok hk
    obtain ⟨e, p, ao, cap, cr, r0, hp, hrow, hn, hh⟩ := build_in hs hM (isA0_ok q2) q3
    obtain rfl : x0 = .pointer (some ⟨e.b, 0, none⟩) := by simpa [den, r0] using d1.symm
    exact doneR hE hs (hW Ty e.b l _ { G with M := E.M } w F (hT _ (anyB_ok q1)) ⟨p, ao, cap, cr, hp, hrow, fun q => absurd q q5, rfl⟩ hh) hk hr
  · cases hk
end
end Go.Sy
namespace Go.Proofs
open Go.Shelf
def Tryz.lays156_ren : Go.Shelf.Ren := ⟨fun | 156 => 45 | 165 => 71 | 166 => 44 | 169 => 16 | 240 => 70 | 241 => 100 | 276 => 99 | 277 => 127 | n => n, fun | 31 => 102 | 9 => 9 | 3 => 3 | 4 => 4 | 0 => 0 | 20 => 20 | 72 => 78 | 76 => 137 | 70 => 75 | 37 => 76 | 75 => 136 | 127 => 144 | 164 => 239 | 5 => 5 | 80 => 91 | n => n, fun | n => n⟩
theorem Tryz.lays156 : Go.Proofs.Lays.n156 Tryz.prog Tryz.lays156_ren := {
  mixed := by kernel_rfl
  f156 := Tryz.func45.trans (congrArg some (by kernel_rfl))
  f165 := Tryz.func71.trans (congrArg some (by kernel_rfl))
  f166 := Tryz.func44.trans (congrArg some (by kernel_rfl))
  f169 := Tryz.func16.trans (congrArg some (by kernel_rfl))
  f240 := Tryz.func70.trans (congrArg some (by kernel_rfl))
  f241 := Tryz.func100.trans (congrArg some (by kernel_rfl))
  f276 := Tryz.func99.trans (congrArg some (by kernel_rfl))
  f277 := Tryz.func127.trans (congrArg some (by kernel_rfl))
  t0 := Tryz.underlying0
  a0 := Tryz.isAgg0
  z0 := Tryz.sizeOf0
  v0 := Tryz.zeroValue0
  t3 := Tryz.underlying3
  a3 := Tryz.isAgg3
  z3 := Tryz.sizeOf3
  v3 := Tryz.zeroValue3
  t4 := Tryz.underlying4
  a4 := Tryz.isAgg4
  z4 := Tryz.sizeOf4
  v4 := Tryz.zeroValue4
  t9 := Tryz.underlying9
  a9 := Tryz.isAgg9
  z9 := Tryz.sizeOf9
  v9 := Tryz.zeroValue9
  t20 := Tryz.underlying20
  a20 := Tryz.isAgg20
  z20 := Tryz.sizeOf20
  v20 := Tryz.zeroValue20
  t31 := Tryz.underlying102
  a31 := Tryz.isAgg102
  z31 := Tryz.sizeOf102
  v31 := Tryz.zeroValue102
  t37 := Tryz.underlying76
  a37 := Tryz.isAgg76
  z37 := Tryz.sizeOf76
  v37 := Tryz.zeroValue76
  t70 := Tryz.underlying75
  a70 := Tryz.isAgg75
  z70 := Tryz.sizeOf75
  v70 := Tryz.zeroValue75
  t72 := Tryz.underlying78
  a72 := Tryz.isAgg78
  z72 := Tryz.sizeOf78
  v72 := Tryz.zeroValue78
  t75 := Tryz.underlying136
  a75 := Tryz.isAgg136
  z75 := Tryz.sizeOf136
  v75 := Tryz.zeroValue136
  t76 := Tryz.underlying137
  a76 := Tryz.isAgg137
  z76 := Tryz.sizeOf137
  v76 := Tryz.zeroValue137
  t127 := Tryz.underlying144
  a127 := Tryz.isAgg144
  z127 := Tryz.sizeOf144
  v127 := Tryz.zeroValue144
  t164 := Tryz.underlying239
  a164 := Tryz.isAgg239
  z164 := Tryz.sizeOf239
  v164 := Tryz.zeroValue239 }
theorem Tryz.Builder_Extra_156 : Builder.Extra Tryz.prog Tryz.lays156_ren := {
  sizeBuilder := by kernel_rfl
  liesBuilder := by kernel_rfl
  t5 := Tryz.underlying5
  a5 := Tryz.isAgg5
  z5 := Tryz.sizeOf5
  v5 := Tryz.zeroValue5
  infoByte := by kernel_rfl
  cellsByte := by kernel_rfl
  sizeByte := by kernel_rfl
  neB5 := by decide }
open Go.RowKit in
theorem Tryz.strings_Join_none (a : Option Addr) (c : Nat) (sep : ByteArray) (w : World) :
    Calls Tryz.prog 45 #[.slice a 0 c, .string sep] w fun e w' => e = .returned (.string ⟨#[]⟩) ∧ w' = w := Any.strings_Join_none Tryz.lays156 Tryz.Builder_Extra_156 a c sep w
open Go.RowKit in
theorem Tryz.strings_Join (bk o c : Nat) (xs : List ByteArray) (sep : ByteArray) (w : World) (hcells : ∀ (j : Nat) x, xs[j]? = some x → w.cell? ⟨bk, o + j, none⟩ = some (.string x)) (hbk : bk < w.heap.size) (hN : xs.length ≤ 140737488355328) (hcap : xs.length ≤ c) (hlen : (Lib.join (xs.map (·.data.toList)) sep.data.toList).length ≤ 140737488355328) :
    Calls Tryz.prog 45 #[.slice (some ⟨bk, o, none⟩) xs.length c, .string sep] w fun e w' => e = .returned (.string ⟨(Lib.join (xs.map (·.data.toList)) sep.data.toList).toArray⟩) ∧ Below w.heap.size w w' := Any.strings_Join Tryz.lays156 Tryz.Builder_Extra_156 bk o c xs sep w hcells hbk hN hcap hlen
def Tryz.lays283_ren : Go.Shelf.Ren := ⟨fun | 283 => 101 | n => n, fun | 3 => 3 | 9 => 9 | 4 => 4 | n => n, fun | n => n⟩
theorem Tryz.lays283 : Go.Proofs.Lays.n283 Tryz.prog Tryz.lays283_ren := {
  mixed := by kernel_rfl
  f283 := Tryz.func101.trans (congrArg some (by kernel_rfl))
  t3 := Tryz.underlying3
  a3 := Tryz.isAgg3
  z3 := Tryz.sizeOf3
  v3 := Tryz.zeroValue3
  t4 := Tryz.underlying4
  a4 := Tryz.isAgg4
  z4 := Tryz.sizeOf4
  v4 := Tryz.zeroValue4
  t9 := Tryz.underlying9
  a9 := Tryz.isAgg9
  z9 := Tryz.sizeOf9
  v9 := Tryz.zeroValue9 }
open Go.Lib in
theorem Tryz.internal_strconv_small (i : Nat) (h : i < 100) (w : World) :
    Calls Tryz.prog 101 #[.int .i64 i] w fun e w' => e = .returned (.string ⟨(Lib.decDigits i).toArray⟩) ∧ w' = w := Any.internal_strconv_small Tryz.lays283 i h w
def Tryz.laysM246_ren : Go.Shelf.Ren := ⟨fun | 246 => 72 | 283 => 101 | 284 => 102 | 285 => 103 | 286 => 104 | 129 => 129 | 317 => 128 | 318 => 130 | 319 => 131 | 320 => 132 | 337 => 154 | 338 => 155 | n => n, fun | 2 => 2 | 3 => 3 | 9 => 9 | 4 => 4 | 171 => 241 | 0 => 0 | 53 => 36 | 37 => 76 | 5 => 5 | 173 => 244 | 212 => 278 | 51 => 25 | 20 => 20 | 213 => 279 | 46 => 257 | 232 => 308 | 233 => 309 | n => n, fun | 17 => 0 | 18 => 2 | 19 => 3 | n => n⟩
def Tryz.laysM243_ren : Go.Shelf.Ren := ⟨fun | 243 => 47 | 246 => 72 | 283 => 101 | 284 => 102 | 285 => 103 | 286 => 104 | 129 => 129 | 317 => 128 | 318 => 130 | 319 => 131 | 320 => 132 | 337 => 154 | 338 => 155 | n => n, fun | 3 => 3 | 9 => 9 | 2 => 2 | 4 => 4 | 171 => 241 | 0 => 0 | 53 => 36 | 37 => 76 | 5 => 5 | 173 => 244 | 212 => 278 | 51 => 25 | 20 => 20 | 213 => 279 | 46 => 257 | 232 => 308 | 233 => 309 | n => n, fun | 17 => 0 | 18 => 2 | 19 => 3 | n => n⟩
def Tryz.laysM171_ren : Go.Shelf.Ren := ⟨fun | 171 => 14 | 243 => 47 | 246 => 72 | 283 => 101 | 284 => 102 | 285 => 103 | 286 => 104 | 129 => 129 | 317 => 128 | 318 => 130 | 319 => 131 | 320 => 132 | 337 => 154 | 338 => 155 | n => n, fun | 3 => 3 | 9 => 9 | 2 => 2 | 4 => 4 | 171 => 241 | 0 => 0 | 53 => 36 | 37 => 76 | 5 => 5 | 173 => 244 | 212 => 278 | 51 => 25 | 20 => 20 | 213 => 279 | 46 => 257 | 232 => 308 | 233 => 309 | n => n, fun | 17 => 0 | 18 => 2 | 19 => 3 | n => n⟩
theorem Tryz.laysM171 : Go.Proofs.LaysM.n171 Tryz.prog Tryz.laysM171_ren := {
  mixed := by kernel_rfl
  f129 := Tryz.func129.trans (congrArg some (by kernel_rfl))
  f171 := Tryz.func14.trans (congrArg some (by kernel_rfl))
  f243 := Tryz.func47.trans (congrArg some (by kernel_rfl))
  f246 := Tryz.func72.trans (congrArg some (by kernel_rfl))
  f283 := Tryz.func101.trans (congrArg some (by kernel_rfl))
  f284 := Tryz.func102.trans (congrArg some (by kernel_rfl))
  f285 := Tryz.func103.trans (congrArg some (by kernel_rfl))
  f286 := Tryz.func104.trans (congrArg some (by kernel_rfl))
  f317 := Tryz.func128.trans (congrArg some (by kernel_rfl))
  f318 := Tryz.func130.trans (congrArg some (by kernel_rfl))
  f319 := Tryz.func131.trans (congrArg some (by kernel_rfl))
  f320 := Tryz.func132.trans (congrArg some (by kernel_rfl))
  f337 := Tryz.func154.trans (congrArg some (by kernel_rfl))
  f338 := Tryz.func155.trans (congrArg some (by kernel_rfl))
  t0 := Tryz.underlying0
  a0 := Tryz.isAgg0
  z0 := Tryz.sizeOf0
  v0 := Tryz.zeroValue0
  t2 := Tryz.underlying2
  a2 := Tryz.isAgg2
  z2 := Tryz.sizeOf2
  v2 := Tryz.zeroValue2
  t3 := Tryz.underlying3
  a3 := Tryz.isAgg3
  z3 := Tryz.sizeOf3
  v3 := Tryz.zeroValue3
  t4 := Tryz.underlying4
  a4 := Tryz.isAgg4
  z4 := Tryz.sizeOf4
  v4 := Tryz.zeroValue4
  t5 := Tryz.underlying5
  a5 := Tryz.isAgg5
  z5 := Tryz.sizeOf5
  v5 := Tryz.zeroValue5
  t9 := Tryz.underlying9
  a9 := Tryz.isAgg9
  z9 := Tryz.sizeOf9
  v9 := Tryz.zeroValue9
  t20 := Tryz.underlying20
  a20 := Tryz.isAgg20
  z20 := Tryz.sizeOf20
  v20 := Tryz.zeroValue20
  t37 := Tryz.underlying76
  a37 := Tryz.isAgg76
  z37 := Tryz.sizeOf76
  v37 := Tryz.zeroValue76
  t46 := Tryz.underlying257
  a46 := Tryz.isAgg257
  z46 := Tryz.sizeOf257
  v46 := Tryz.zeroValue257
  t51 := Tryz.underlying25
  a51 := Tryz.isAgg25
  z51 := Tryz.sizeOf25
  v51 := Tryz.zeroValue25
  t53 := Tryz.underlying36
  a53 := Tryz.isAgg36
  z53 := Tryz.sizeOf36
  v53 := Tryz.zeroValue36
  t171 := Tryz.underlying241
  a171 := Tryz.isAgg241
  z171 := Tryz.sizeOf241
  v171 := Tryz.zeroValue241
  t173 := Tryz.underlying244
  a173 := Tryz.isAgg244
  z173 := Tryz.sizeOf244
  v173 := Tryz.zeroValue244
  t212 := Tryz.underlying278
  a212 := Tryz.isAgg278
  z212 := Tryz.sizeOf278
  v212 := Tryz.zeroValue278
  t213 := Tryz.underlying279
  a213 := Tryz.isAgg279
  z213 := Tryz.sizeOf279
  t232 := Tryz.underlying308
  a232 := Tryz.isAgg308
  z232 := Tryz.sizeOf308
  v232 := Tryz.zeroValue308
  t233 := Tryz.underlying309
  a233 := Tryz.isAgg309
  z233 := Tryz.sizeOf309
  v233 := Tryz.zeroValue309
  g17 := by kernel_rfl
  g18 := by kernel_rfl
  g19 := by kernel_rfl
  i0 := by kernel_rfl
  i2 := by kernel_rfl
  i3 := by kernel_rfl
  i4 := by kernel_rfl
  i5 := by kernel_rfl
  i9 := by kernel_rfl
  i20 := by kernel_rfl
  i37 := by kernel_rfl
  i46 := by kernel_rfl
  i51 := by kernel_rfl
  i53 := by kernel_rfl
  i171 := by kernel_rfl
  i173 := by kernel_rfl
  i212 := by kernel_rfl
  i232 := by kernel_rfl
  i233 := by kernel_rfl
  m17 := by kernel_rfl
  m18 := by kernel_rfl
  m19 := by kernel_rfl }
open Go.RowKit Go.Sort Go.Lib in
theorem Tryz.strconv_Itoa (n : Int) (h0 : -9223372036854775808 ≤ n) (h1 : n ≤ 9223372036854775807) (w : World) (htab : Lib.TabIs Tryz.prog w "internal/strconv.uint64pow10" .u64 Lib.pow10Tab) :
    Calls Tryz.prog 14 #[.int .i64 n] w fun e w' => e = .returned (.string ⟨(Lib.itoa n).toArray⟩) ∧ ∃ k os, w' = grow (w.drewN k) os := Any.strconv_Itoa Tryz.laysM171 n h0 h1 w htab
def Tryz.laysM173_ren : Go.Shelf.Ren := ⟨fun | 173 => 73 | 246 => 72 | 283 => 101 | 284 => 102 | 285 => 103 | 286 => 104 | 129 => 129 | 317 => 128 | 318 => 130 | 319 => 131 | 320 => 132 | 337 => 154 | 338 => 155 | n => n, fun | 2 => 2 | 3 => 3 | 9 => 9 | 4 => 4 | 171 => 241 | 0 => 0 | 53 => 36 | 37 => 76 | 5 => 5 | 173 => 244 | 212 => 278 | 51 => 25 | 20 => 20 | 213 => 279 | 46 => 257 | 232 => 308 | 233 => 309 | n => n, fun | 17 => 0 | 18 => 2 | 19 => 3 | n => n⟩
theorem Tryz.laysM173 : Go.Proofs.LaysM.n173 Tryz.prog Tryz.laysM173_ren := {
  mixed := by kernel_rfl
  f129 := Tryz.func129.trans (congrArg some (by kernel_rfl))
  f173 := Tryz.func73.trans (congrArg some (by kernel_rfl))
  f246 := Tryz.func72.trans (congrArg some (by kernel_rfl))
  f283 := Tryz.func101.trans (congrArg some (by kernel_rfl))
  f284 := Tryz.func102.trans (congrArg some (by kernel_rfl))
  f285 := Tryz.func103.trans (congrArg some (by kernel_rfl))
  f286 := Tryz.func104.trans (congrArg some (by kernel_rfl))
  f317 := Tryz.func128.trans (congrArg some (by kernel_rfl))
  f318 := Tryz.func130.trans (congrArg some (by kernel_rfl))
  f319 := Tryz.func131.trans (congrArg some (by kernel_rfl))
  f320 := Tryz.func132.trans (congrArg some (by kernel_rfl))
  f337 := Tryz.func154.trans (congrArg some (by kernel_rfl))
  f338 := Tryz.func155.trans (congrArg some (by kernel_rfl))
  t0 := Tryz.underlying0
  a0 := Tryz.isAgg0
  z0 := Tryz.sizeOf0
  v0 := Tryz.zeroValue0
  t2 := Tryz.underlying2
  a2 := Tryz.isAgg2
  z2 := Tryz.sizeOf2
  v2 := Tryz.zeroValue2
  t3 := Tryz.underlying3
  a3 := Tryz.isAgg3
  z3 := Tryz.sizeOf3
  v3 := Tryz.zeroValue3
  t4 := Tryz.underlying4
  a4 := Tryz.isAgg4
  z4 := Tryz.sizeOf4
  v4 := Tryz.zeroValue4
  t5 := Tryz.underlying5
  a5 := Tryz.isAgg5
  z5 := Tryz.sizeOf5
  v5 := Tryz.zeroValue5
  t9 := Tryz.underlying9
  a9 := Tryz.isAgg9
  z9 := Tryz.sizeOf9
  v9 := Tryz.zeroValue9
  t20 := Tryz.underlying20
  a20 := Tryz.isAgg20
  z20 := Tryz.sizeOf20
  v20 := Tryz.zeroValue20
  t37 := Tryz.underlying76
  a37 := Tryz.isAgg76
  z37 := Tryz.sizeOf76
  v37 := Tryz.zeroValue76
  t46 := Tryz.underlying257
  a46 := Tryz.isAgg257
  z46 := Tryz.sizeOf257
  v46 := Tryz.zeroValue257
  t51 := Tryz.underlying25
  a51 := Tryz.isAgg25
  z51 := Tryz.sizeOf25
  v51 := Tryz.zeroValue25
  t53 := Tryz.underlying36
  a53 := Tryz.isAgg36
  z53 := Tryz.sizeOf36
  v53 := Tryz.zeroValue36
  t171 := Tryz.underlying241
  a171 := Tryz.isAgg241
  z171 := Tryz.sizeOf241
  v171 := Tryz.zeroValue241
  t173 := Tryz.underlying244
  a173 := Tryz.isAgg244
  z173 := Tryz.sizeOf244
  v173 := Tryz.zeroValue244
  t212 := Tryz.underlying278
  a212 := Tryz.isAgg278
  z212 := Tryz.sizeOf278
  v212 := Tryz.zeroValue278
  t213 := Tryz.underlying279
  a213 := Tryz.isAgg279
  z213 := Tryz.sizeOf279
  t232 := Tryz.underlying308
  a232 := Tryz.isAgg308
  z232 := Tryz.sizeOf308
  v232 := Tryz.zeroValue308
  t233 := Tryz.underlying309
  a233 := Tryz.isAgg309
  z233 := Tryz.sizeOf309
  v233 := Tryz.zeroValue309
  g17 := by kernel_rfl
  g18 := by kernel_rfl
  g19 := by kernel_rfl
  i0 := by kernel_rfl
  i2 := by kernel_rfl
  i3 := by kernel_rfl
  i4 := by kernel_rfl
  i5 := by kernel_rfl
  i9 := by kernel_rfl
  i20 := by kernel_rfl
  i37 := by kernel_rfl
  i46 := by kernel_rfl
  i51 := by kernel_rfl
  i53 := by kernel_rfl
  i171 := by kernel_rfl
  i173 := by kernel_rfl
  i212 := by kernel_rfl
  i232 := by kernel_rfl
  i233 := by kernel_rfl
  m17 := by kernel_rfl
  m18 := by kernel_rfl
  m19 := by kernel_rfl }
open Go.RowKit Go.Sort Go.Lib in
theorem Tryz.strconv_FormatInt_10 (n : Int) (h0 : -9223372036854775808 ≤ n) (h1 : n ≤ 9223372036854775807) (w : World) (htab : Lib.TabIs Tryz.prog w "internal/strconv.uint64pow10" .u64 Lib.pow10Tab) :
    Calls Tryz.prog 73 #[.int .i64 n, .int .i64 10] w fun e w' => e = .returned (.string ⟨(Lib.itoa n).toArray⟩) ∧ ∃ k os, w' = grow (w.drewN k) os := Any.strconv_FormatInt_10 Tryz.laysM173 n h0 h1 w htab
end Go.Proofs
namespace Go.Proofs.YtecafdjefholfaaGreatDoor
open Go Go.RowKit Go.Eng Go.Sy
set_option linter.unusedVariables false
set_option linter.unnecessarySimpa false
set_option maxHeartbeats 4000000
set_option maxRecDepth 100000
theorem ag75 : isAg Tryz.prog 75 = some false := by kernel_rfl
theorem ag76 : isAg Tryz.prog 76 = some false := by kernel_rfl
theorem elem5 : elemOk Tryz.prog 5 1 1 = true := by kernel_rfl
theorem mixed : Tryz.prog.follows .mixedOrders = true := by kernel_rfl
theorem off78_0 : fOff Tryz.prog 78 0 = some 0 := by kernel_rfl
theorem off78_1 : fOff Tryz.prog 78 1 = some 1 := by kernel_rfl
theorem ok70 : okF Tryz.prog 70 = some (false, false) := by kernel_rfl
theorem some78 : (Tryz.prog.info? 78).isSome = true := by kernel_rfl
theorem sz75 : szOf Tryz.prog 75 = some 1 := by kernel_rfl
theorem sz76 : szOf Tryz.prog 76 = some 1 := by kernel_rfl
theorem sz78 : szOf Tryz.prog 78 = some 2 := by kernel_rfl
theorem und144 : Tryz.prog.underlying 144 = some (.pointer 5) := by kernel_rfl
theorem und239 : Tryz.prog.underlying 239 = some .unsafePointer := by kernel_rfl
theorem und75 : Tryz.prog.underlying 75 = some (.pointer 78) := by kernel_rfl
theorem und76 : Tryz.prog.underlying 76 = some (.slice 5) := by kernel_rfl
theorem und9 : Tryz.prog.underlying 9 = some .string := by kernel_rfl
theorem zv5 : (Tryz.prog.info? 5).bind (fun i => i.zero) = some (.int .u8 0) := by kernel_rfl
abbrev BldT (T : Nat) : Prop := liesAt Tryz.prog Tryz.prog.depth T (2 / Tryz.prog.cellsOf T) 0 78 1 = true
theorem bEmpty (l : List UInt8) {ao : Option Addr} {cap : Nat} {c : Chunk} (r : Row 5 1 ao l.length cap (l.map u8) c) (h : l = [] → ao = none) : (l = [] ∧ ao = none ∧ cap = 0) ∨ ∃ g, ao = some ⟨g, 0, none⟩ ∧ cap ≠ 0 ∧ l ≠ [] := by
  rcases r.form with ⟨h1, h2, h3, _⟩ | ⟨g, cur, h1, _, h2, _⟩
  · exact .inl ⟨List.eq_nil_of_length_eq_zero h2, h1, h3⟩
  · have hne : l ≠ [] := fun e => by rw [h e] at h1; cases h1
    have : 0 < l.length := List.length_pos_iff.2 hne
    exact .inr ⟨g, h1, by omega, hne⟩
theorem bCopy_spec {b_T b : Nat} {b_l : List UInt8} {b_k : Chunk} {G : GS} {w : World} {F : List Chunk} (h_b_T : BldT b_T) (h_b : BuildD b_T b b_l b_k) (h : Holds G w (b_k :: F)) :
    Calls Tryz.prog 70 #[.pointer (some ⟨b, 0, none⟩)] w (RetO G F fun G v c1 => v = .tuple #[] ∧ BuildS b_T b (b_l) c1) := by
  obtain ⟨p, ao, cap, cr, hp, r, rfl⟩ := h_b
  refine enter (N := 20) (L := [(0, .pointer (some ⟨b, 0, none⟩))]) rfl Tryz.func70 rfl rfl rfl (fun a0 s0 => ?_)
  rcases hp with rfl | rfl
  ·
    have h : Holds _ _ ([(b, .cells #[.pointer none, .slice ao b_l.length cap] b_T (0, 0))] :: cr :: F) := h.split
    refine wp_seq ?_
    refine wp_region_lit ?_
    refine q_of s0 rfl (fun _ k => o_move (s0.ev rfl) k) (fun a1 s2 => ?_)
    refine q_of s2 rfl (fun _ k => o_nil (s2.ev rfl) rfl k) (fun a3 s4 => ?_)
    refine q_of s4 rfl (fun _ k => o_fieldAddr (s4.ev rfl) off78_0 k) (fun a5 s6 => ?_)
    refine q_of s6 rfl (fun _ k => o_loadOne (s6.ev rfl) ag75 ((h.rowI 0 0 (cs := [.pointer none]) (o := 0) rfl rfl rfl) 0 _ rfl) k) (fun a7 s8 => ?_)
    refine q_of s8 rfl (fun _ k => o_bin (s8.ev rfl) (s8.ev rfl) (z := .bool true) (by kernel_rfl) k) (fun a9 s10 => ?_)
    refine wpList_nil ?_
    refine x_then_n ?_
    refine q_ift s10 rfl rfl ?_
    refine wp_region_lit ?_
    refine q_of s10 rfl (fun _ k => o_move (s10.ev rfl) k) (fun a12 s13 => ?_)
    refine q_of s13 rfl (fun _ k => o_move (s13.ev rfl) k) (fun a14 s15 => ?_)
    refine q_of s15 rfl (fun _ k => o_toUnsafe (s15.ev rfl) und75 und239 sz78 rfl (h.shapeI 0 0 rfl rfl) rfl k) (fun a16 s17 => ?_)
    refine q_of s17 rfl (fun _ k => o_noEscape (s17.ev rfl) Tryz.func99 (by kernel_rfl) (by kernel_rfl) (by kernel_rfl) (by kernel_rfl) k) (fun a18 s19 => ?_)
    refine q_of s19 rfl (fun _ k => o_fromUnsafe (s19.ev rfl) und239 und75 some78 (h.shapeI 0 0 rfl rfl) h_b_T k) (fun a20 s21 => ?_)
    refine q_of s21 rfl (fun _ k => o_nil (s21.ev rfl) rfl k) (fun a22 s23 => ?_)
    refine q_of s23 rfl (fun _ k => o_fieldAddr (s23.ev rfl) off78_0 k) (fun a24 s25 => ?_)
    refine q_store s25 rfl rfl sz75 rfl h (j := 0) rfl rfl rfl (cl := [.pointer (some ⟨b, 0, none⟩), .slice ao b_l.length cap]) (by kernel_rfl) (fun a26 w28 s27 h29 => ?_)
    have h29 : Holds _ _ ([(b, .cells #[.pointer (some ⟨b, 0, none⟩), .slice ao b_l.length cap] b_T (0, 0))] :: cr :: F) := h29
    refine wpList_nil ?_
    have h30 : Holds _ _ (cr :: [(b, .cells #[.pointer (some ⟨b, 0, none⟩), .slice ao b_l.length cap] b_T (0, 0))] :: F) := h29.front 1 rfl
    have h31 : Holds _ _ ([(b, .cells #[.pointer (some ⟨b, 0, none⟩), .slice ao b_l.length cap] b_T (0, 0))] :: cr :: F) := h30.front 1 rfl
    exact fin0n s27 rfl ⟨_, _, _, rfl, (GS.Le.refl _), h31.join, rfl, ⟨_, _, _, _, rfl, r, rfl⟩⟩
  ·
    have h : Holds _ _ ([(b, .cells #[.pointer (some ⟨b, 0, none⟩), .slice ao b_l.length cap] b_T (0, 0))] :: cr :: F) := h.split
    refine wp_seq ?_
    refine wp_region_lit ?_
    refine q_of s0 rfl (fun _ k => o_move (s0.ev rfl) k) (fun a32 s33 => ?_)
    refine q_of s33 rfl (fun _ k => o_nil (s33.ev rfl) rfl k) (fun a34 s35 => ?_)
    refine q_of s35 rfl (fun _ k => o_fieldAddr (s35.ev rfl) off78_0 k) (fun a36 s37 => ?_)
    refine q_of s37 rfl (fun _ k => o_loadOne (s37.ev rfl) ag75 ((h.rowI 0 0 (cs := [.pointer (some ⟨b, 0, none⟩)]) (o := 0) rfl rfl rfl) 0 _ rfl) k) (fun a38 s39 => ?_)
    refine q_of s39 rfl (fun _ k => o_bin (s39.ev rfl) (s39.ev rfl) (z := .bool false) (by kernel_rfl) k) (fun a40 s41 => ?_)
    refine wpList_nil ?_
    refine x_then_n ?_
    refine q_iff s41 rfl rfl ?_
    refine wp_seq ?_
    refine wp_region_lit ?_
    refine q_of s41 rfl (fun _ k => o_move (s41.ev rfl) k) (fun a43 s44 => ?_)
    refine q_of s44 rfl (fun _ k => o_nil (s44.ev rfl) rfl k) (fun a45 s46 => ?_)
    refine q_of s46 rfl (fun _ k => o_fieldAddr (s46.ev rfl) off78_0 k) (fun a47 s48 => ?_)
    refine q_of s48 rfl (fun _ k => o_loadOne (s48.ev rfl) ag75 ((h.rowI 0 0 (cs := [.pointer (some ⟨b, 0, none⟩)]) (o := 0) rfl rfl rfl) 0 _ rfl) k) (fun a49 s50 => ?_)
    refine q_of s50 rfl (fun _ k => o_move (s50.ev rfl) k) (fun a51 s52 => ?_)
    refine q_of s52 rfl (fun _ k => o_pneqSelf (s52.ev rfl) (s52.ev rfl) und75 sz78 rfl k) (fun a53 s54 => ?_)
    refine wpList_nil ?_
    refine x_then_n ?_
    refine q_iff s54 rfl rfl ?_
    refine wp_skip ?_
    have h56 : Holds _ _ (cr :: [(b, .cells #[.pointer (some ⟨b, 0, none⟩), .slice ao b_l.length cap] b_T (0, 0))] :: F) := h.front 1 rfl
    have h57 : Holds _ _ ([(b, .cells #[.pointer (some ⟨b, 0, none⟩), .slice ao b_l.length cap] b_T (0, 0))] :: cr :: F) := h56.front 1 rfl
    exact fin0n s54 rfl ⟨_, _, _, rfl, (GS.Le.refl _), h57.join, rfl, ⟨_, _, _, _, rfl, r, rfl⟩⟩
theorem bStr_spec {b_T b : Nat} {b_l : List UInt8} {b_k : Chunk} (t : List UInt8) {G : GS} {w : World} {F : List Chunk} (h_b_T : BldT b_T) (h_b : BuildD b_T b b_l b_k) (hl : b_l.length + t.length ≤ 140737488355328) (h : Holds G w (b_k :: F)) :
    Calls Tryz.prog 44 #[.pointer (some ⟨b, 0, none⟩), S t] w (RetO G F fun G v c1 => v = .tuple #[.int .i64 (t.length : Int), .nilIface] ∧ BuildS b_T b (b_l ++ t) c1) := by
  refine enter (N := 19) (L := [(0, .pointer (some ⟨b, 0, none⟩)), (1, S t)]) rfl Tryz.func44 rfl rfl rfl (fun a0 s0 => ?_)
  refine wp_seq ?_
  refine wp_region_lit ?_
  refine q_of s0 rfl (fun _ k => o_assign (s0.ev rfl) k) (fun a1 s2 => ?_)
  refine q_of s2 rfl (fun _ k => o_assign (s2.ev rfl) k) (fun a3 s4 => ?_)
  refine wpList_nil ?_
  refine x_then_n ?_
  refine wp_seq ?_
  refine wp_region_lit ?_
  refine q_of s4 rfl (fun _ k => o_move (s4.ev rfl) k) (fun a5 s6 => ?_)
  refine q_callO s6 rfl ok70 rfl (bCopy_spec h_b_T h_b h) (fun a7 w9 v14 G11 c16 hs15 h10 hv13 s8 => ?_)
  obtain ⟨v14e, hb17⟩ := hv13
  subst v14e
  have hG12 := (GS.Le.refl _).trans hs15
  refine wpList_nil ?_
  refine x_then_n ?_
  refine wp_seq ?_
  refine wp_region_lit ?_
  obtain ⟨p18, ao19, cap20, cr21, hp22, r23, rfl⟩ := hb17
  have h25 : Holds _ _ ([(b, .cells #[p18, .slice ao19 b_l.length cap20] b_T (0, 0))] :: cr21 :: F) := h10.split
  refine q_of s8 rfl (fun _ k => o_move (s8.ev rfl) k) (fun a26 s27 => ?_)
  refine q_of s27 rfl (fun _ k => o_move (s27.ev rfl) k) (fun a28 s29 => ?_)
  refine q_of s29 rfl (fun _ k => o_nil (s29.ev rfl) rfl k) (fun a30 s31 => ?_)
  refine q_of s31 rfl (fun _ k => o_fieldAddr (s31.ev rfl) off78_1 k) (fun a32 s33 => ?_)
  refine q_of s33 rfl (fun _ k => o_loadOne (s33.ev rfl) ag76 ((h25.rowI 0 0 (cs := [.slice ao19 b_l.length cap20]) (o := 1) rfl rfl rfl) 0 _ rfl) k) (fun a34 s35 => ?_)
  refine q_of s35 rfl (fun _ k => o_move (s35.ev rfl) k) (fun a36 s37 => ?_)
  have h38 : Holds _ _ (cr21 :: [(b, .cells #[p18, .slice ao19 b_l.length cap20] b_T (0, 0))] :: F) := h25.front 1 rfl
  refine q_appendS s37 rfl r23 h38 rfl rfl und76 und9 elem5 zv5 (by omega) (fun a39 w41 ao43 cap44 c45 s40 r46 h42 hn47 => ?_)
  refine q_of s40 rfl (fun _ k => o_nil (s40.ev rfl) rfl k) (fun a48 s49 => ?_)
  refine q_of s49 rfl (fun _ k => o_fieldAddr (s49.ev rfl) off78_1 k) (fun a50 s51 => ?_)
  have h52 : Holds _ _ ([(b, .cells #[p18, .slice ao19 b_l.length cap20] b_T (0, 0))] :: c45 :: F) := h42.front 1 rfl
  refine q_store s51 rfl rfl sz76 rfl h52 (j := 0) rfl rfl rfl (cl := [p18, .slice ao43 (b_l.length + t.length) cap44]) (by kernel_rfl) (fun a53 w55 s54 h56 => ?_)
  have h56 : Holds _ _ ([(b, .cells #[p18, .slice ao43 (b_l.length + t.length) cap44] b_T (0, 0))] :: c45 :: F) := h56
  refine wpList_nil ?_
  refine x_then_n ?_
  refine wp_seq ?_
  refine wp_region_lit ?_
  refine q_of s54 rfl (fun _ k => o_move (s54.ev rfl) k) (fun a57 s58 => ?_)
  refine q_of s58 rfl (fun _ k => o_slen (s58.ev rfl) und9 k) (fun a59 s60 => ?_)
  refine q_of s60 rfl (fun _ k => o_assign (s60.ev rfl) k) (fun a61 s62 => ?_)
  refine q_of s62 rfl (fun _ k => o_assign (s62.ev rfl) k) (fun a63 s64 => ?_)
  refine wpList_nil ?_
  refine x_then_n ?_
  refine wp_ret ?_
  have h65 : Holds _ _ (c45 :: [(b, .cells #[p18, .slice ao43 (b_l.length + t.length) cap44] b_T (0, 0))] :: F) := h56.front 1 rfl
  have h66 : Holds _ _ ([(b, .cells #[p18, .slice ao43 (b_l.length + t.length) cap44] b_T (0, 0))] :: c45 :: F) := h65.front 1 rfl
  rw [show b_l.length + t.length = (b_l ++ t).length from (List.length_append ..).symm] at h66 r46
  rw [← List.map_append] at r46
  exact fin2 s64 rfl rfl rfl ⟨_, _, _, rfl, hG12, h66.join, rfl, ⟨_, _, _, _, hp22, r46, rfl⟩⟩
theorem bByte_spec {b_T b : Nat} {b_l : List UInt8} {b_k : Chunk} (c : Int) {G : GS} {w : World} {F : List Chunk} (h_b_T : BldT b_T) (h_b : BuildD b_T b b_l b_k) (h_c : 0 ≤ c ∧ c ≤ 255) (hl : b_l.length + 1 ≤ 140737488355328) (h : Holds G w (b_k :: F)) :
    Calls Tryz.prog 46 #[.pointer (some ⟨b, 0, none⟩), .int .u8 c] w (RetO G F fun G v c1 => v = .nilIface ∧ BuildS b_T b (b_l ++ [UInt8.ofNat c.toNat]) c1) := by
  refine enter (N := 17) (L := [(0, .pointer (some ⟨b, 0, none⟩)), (1, .int .u8 c)]) rfl Tryz.func46 rfl rfl rfl (fun a0 s0 => ?_)
  refine wp_seq ?_
  refine wp_region_lit ?_
  refine q_of s0 rfl (fun _ k => o_assign (s0.ev rfl) k) (fun a1 s2 => ?_)
  refine wpList_nil ?_
  refine x_then_n ?_
  refine wp_seq ?_
  refine wp_region_lit ?_
  refine q_of s2 rfl (fun _ k => o_move (s2.ev rfl) k) (fun a3 s4 => ?_)
  refine q_callO s4 rfl ok70 rfl (bCopy_spec h_b_T h_b h) (fun a5 w7 v12 G9 c14 hs13 h8 hv11 s6 => ?_)
  obtain ⟨v12e, hb15⟩ := hv11
  subst v12e
  have hG10 := (GS.Le.refl _).trans hs13
  refine wpList_nil ?_
  refine x_then_n ?_
  refine wp_seq ?_
  refine wp_region_lit ?_
  obtain ⟨p16, ao17, cap18, cr19, hp20, r21, rfl⟩ := hb15
  have h23 : Holds _ _ ([(b, .cells #[p16, .slice ao17 b_l.length cap18] b_T (0, 0))] :: cr19 :: F) := h8.split
  refine q_of s6 rfl (fun _ k => o_move (s6.ev rfl) k) (fun a24 s25 => ?_)
  refine q_of s25 rfl (fun _ k => o_move (s25.ev rfl) k) (fun a26 s27 => ?_)
  refine q_of s27 rfl (fun _ k => o_nil (s27.ev rfl) rfl k) (fun a28 s29 => ?_)
  refine q_of s29 rfl (fun _ k => o_fieldAddr (s29.ev rfl) off78_1 k) (fun a30 s31 => ?_)
  refine q_of s31 rfl (fun _ k => o_loadOne (s31.ev rfl) ag76 ((h23.rowI 0 0 (cs := [.slice ao17 b_l.length cap18]) (o := 1) rfl rfl rfl) 0 _ rfl) k) (fun a32 s33 => ?_)
  refine q_of s33 rfl (fun _ k => o_move (s33.ev rfl) k) (fun a34 s35 => ?_)
  refine q_buildSlice s35 rfl h23 (vs := [(0, .int .u8 c)]) (cl := [.int .u8 c]) (E := 5) rfl (fun w => by kernel_rfl) (fun a37 w39 b36 s38 h40 => ?_)
  have h40 : Holds _ _ ([(b36, .cells #[.int .u8 c] 5 (0, 0))] :: [(b, .cells #[p16, .slice ao17 b_l.length cap18] b_T (0, 0))] :: cr19 :: F) := h40
  have h41 : Holds _ _ (cr19 :: [(b36, .cells #[.int .u8 c] 5 (0, 0))] :: [(b, .cells #[p16, .slice ao17 b_l.length cap18] b_T (0, 0))] :: F) := h40.front 2 rfl
  refine q_append s38 rfl r21 h41 rfl rfl und76 elem5 (news := [.int .u8 c]) rfl (h41.rowI 1 0 (o := 0) rfl rfl rfl) rfl (by omega) (by omega) (fun a42 w44 ao46 cap47 c48 s43 r49 h45 => ?_)
  have h50 : Holds _ _ ([(b36, .cells #[.int .u8 c] 5 (0, 0))] :: c48 :: [(b, .cells #[p16, .slice ao17 b_l.length cap18] b_T (0, 0))] :: F) := h45.front 1 rfl
  have h51 : Holds _ _ (c48 :: [(b, .cells #[p16, .slice ao17 b_l.length cap18] b_T (0, 0))] :: F) := h50.drop
  refine q_of s43 rfl (fun _ k => o_nil (s43.ev rfl) rfl k) (fun a52 s53 => ?_)
  refine q_of s53 rfl (fun _ k => o_fieldAddr (s53.ev rfl) off78_1 k) (fun a54 s55 => ?_)
  have h56 : Holds _ _ ([(b, .cells #[p16, .slice ao17 b_l.length cap18] b_T (0, 0))] :: c48 :: F) := h51.front 1 rfl
  refine q_store s55 rfl rfl sz76 rfl h56 (j := 0) rfl rfl rfl (cl := [p16, .slice ao46 (b_l.length + 1) cap47]) (by kernel_rfl) (fun a57 w59 s58 h60 => ?_)
  have h60 : Holds _ _ ([(b, .cells #[p16, .slice ao46 (b_l.length + 1) cap47] b_T (0, 0))] :: c48 :: F) := h60
  refine wpList_nil ?_
  refine x_then_n ?_
  refine wp_seq ?_
  refine wp_region_lit ?_
  refine q_of s58 rfl (fun _ k => o_assign (s58.ev rfl) k) (fun a61 s62 => ?_)
  refine wpList_nil ?_
  refine x_then_n ?_
  refine wp_ret ?_
  have h63 : Holds _ _ (c48 :: [(b, .cells #[p16, .slice ao46 (b_l.length + 1) cap47] b_T (0, 0))] :: F) := h60.front 1 rfl
  have h64 : Holds _ _ ([(b, .cells #[p16, .slice ao46 (b_l.length + 1) cap47] b_T (0, 0))] :: c48 :: F) := h63.front 1 rfl
  have r49 := r49.cast (n' := (b_l ++ [UInt8.ofNat c.toNat]).length) (xs' := (b_l ++ [UInt8.ofNat c.toNat]).map u8) (by simp) (by rw [u8_of h_c, List.map_append]; rfl)
  rw [show b_l.length + 1 = (b_l ++ [UInt8.ofNat c.toNat]).length by simp] at h64
  exact fin1 s62 rfl rfl ⟨_, _, _, rfl, hG10, h64.join, rfl, ⟨_, _, _, _, hp20, r49, rfl⟩⟩
theorem bGet_spec {b_T b : Nat} {b_l : List UInt8} {b_k : Chunk} {G : GS} {w : World} {F : List Chunk} (h_b_T : BldT b_T) (h_b : BuildC b_T b b_l b_k) (h : Holds G w (b_k :: F)) :
    Calls Tryz.prog 16 #[.pointer (some ⟨b, 0, none⟩)] w (Ret G F fun G v => v = S b_l) := by
  obtain ⟨p, ao, cap, cr, hp, r, hao, rfl⟩ := h_b
  refine enter (N := 14) (L := [(0, .pointer (some ⟨b, 0, none⟩))]) rfl Tryz.func16 rfl rfl rfl (fun a0 s0 => ?_)
  rcases bEmpty b_l r hao with ⟨rfl, rfl, rfl⟩ | ⟨g0, rfl, hc, hne⟩
  ·
    have h : Holds _ _ ([(b, .cells #[p, .slice none 0 0] b_T (0, 0))] :: cr :: F) := h.split
    refine wp_seq ?_
    refine wp_region_lit ?_
    refine q_of s0 rfl (fun _ k => o_assign (s0.ev rfl) k) (fun a1 s2 => ?_)
    refine wpList_nil ?_
    refine x_then_n ?_
    refine wp_seq ?_
    have hok : okX 14 [(0, .pointer (some ⟨b, 0, none⟩))] [(some 3, Fact.eq (.pointer (some ⟨b, 0, none⟩))), (some 4, Fact.eq (.pointer (some ⟨b, 0, none⟩))), (some 5, Fact.eq (.pointer (some ⟨b, 1, none⟩))), (some 6, Fact.eq (.slice none 0 0)), (some 7, Fact.eq (.pointer none)), (some 8, Fact.eq (.pointer (some ⟨b, 0, none⟩))), (some 9, Fact.eq (.pointer (some ⟨b, 0, none⟩))), (some 10, Fact.eq (.pointer (some ⟨b, 1, none⟩))), (some 11, Fact.eq (.slice none 0 0)), (some 12, Fact.eq (.int .i64 0)), (some 13, Fact.eq (S [])), (some 2, Fact.eq (S []))] [] = true := rfl
    refine region_draw (N := 14) (L0 := [(0, .pointer (some ⟨b, 0, none⟩))]) (X := [(some 3, Fact.eq (.pointer (some ⟨b, 0, none⟩))), (some 4, Fact.eq (.pointer (some ⟨b, 0, none⟩))), (some 5, Fact.eq (.pointer (some ⟨b, 1, none⟩))), (some 6, Fact.eq (.slice none 0 0)), (some 7, Fact.eq (.pointer none)), (some 8, Fact.eq (.pointer (some ⟨b, 0, none⟩))), (some 9, Fact.eq (.pointer (some ⟨b, 0, none⟩))), (some 10, Fact.eq (.pointer (some ⟨b, 1, none⟩))), (some 11, Fact.eq (.slice none 0 0)), (some 12, Fact.eq (.int .i64 0)), (some 13, Fact.eq (S [])), (some 2, Fact.eq (S []))]) (O := []) (HR := fun D a _ H => H = ([(b, .cells #[p, .slice none 0 0] b_T (0, 0))] :: cr :: F)) mixed rfl h rfl (s2.sub (all_cons rfl (all_nil))) (fun i k t v hi => by simp at hi) ⟨?_, ?_, ?_, ?_, ?_, ?_, ?_, ?_, ?_, ?_, ?_, ?_, trivial⟩ (fun D a w G H hall j => ?_)
    · exact step_of rfl (fun D a w G H hR j => by (have s := j.sf ; exact o_move (s.ev rfl) (j.did hok rfl (GS.Le.refl _) j.holds j.hr rfl)))
    · exact step_of rfl (fun D a w G H hR j => by (have s := (j.sf.know _ _ (j.gotE 0 rfl (hR.was rfl 0 rfl))) ; exact o_nil (s.ev rfl) rfl (j.did hok rfl (GS.Le.refl _) j.holds j.hr rfl)))
    · exact step_of rfl (fun D a w G H hR j => by (have s := (j.sf.know _ _ (j.gotE 1 rfl (hR.was rfl 1 rfl))) ; exact o_fieldAddr (s.ev rfl) off78_1 (j.did hok rfl (GS.Le.refl _) j.holds j.hr rfl)))
    · exact step_of rfl (fun D a w G H hR j => by (have hH := j.hr ; subst H ; have s := (j.sf.know _ _ (j.gotE 2 rfl (hR.was rfl 2 rfl))) ; exact o_loadOne (s.ev rfl) ag76 ((j.holds.rowI 0 0 (cs := [.slice none 0 0]) (o := 1) rfl rfl rfl) 0 _ rfl) (j.did hok rfl (GS.Le.refl _) j.holds j.hr rfl)))
    · exact step_of rfl (fun D a w G H hR j => by (have s := (j.sf.know _ _ (j.gotE 3 rfl (hR.was rfl 3 rfl))) ; exact o_sliceData0 (s.ev rfl) (j.did hok rfl (GS.Le.refl _) j.holds j.hr rfl)))
    · exact step_of rfl (fun D a w G H hR j => by (have s := j.sf ; exact o_move (s.ev rfl) (j.did hok rfl (GS.Le.refl _) j.holds j.hr rfl)))
    · exact step_of rfl (fun D a w G H hR j => by (have s := (j.sf.know _ _ (j.gotE 5 rfl (hR.was rfl 5 rfl))) ; exact o_nil (s.ev rfl) rfl (j.did hok rfl (GS.Le.refl _) j.holds j.hr rfl)))
    · exact step_of rfl (fun D a w G H hR j => by (have s := (j.sf.know _ _ (j.gotE 6 rfl (hR.was rfl 6 rfl))) ; exact o_fieldAddr (s.ev rfl) off78_1 (j.did hok rfl (GS.Le.refl _) j.holds j.hr rfl)))
    · exact step_of rfl (fun D a w G H hR j => by (have hH := j.hr ; subst H ; have s := (j.sf.know _ _ (j.gotE 7 rfl (hR.was rfl 7 rfl))) ; exact o_loadOne (s.ev rfl) ag76 ((j.holds.rowI 0 0 (cs := [.slice none 0 0]) (o := 1) rfl rfl rfl) 0 _ rfl) (j.did hok rfl (GS.Le.refl _) j.holds j.hr rfl)))
    · exact step_of rfl (fun D a w G H hR j => by (have s := (j.sf.know _ _ (j.gotE 8 rfl (hR.was rfl 8 rfl))) ; exact o_len (s.ev rfl) und76 (j.did hok rfl (GS.Le.refl _) j.holds j.hr rfl)))
    · exact step_of rfl (fun D a w G H hR j => by (have s := ((j.sf.know _ _ (j.gotE 4 rfl (hR.was rfl 4 rfl))).know _ _ (j.gotE 9 rfl (hR.was rfl 9 rfl))) ; exact o_unsafeString0 (s.ev rfl) (s.ev rfl) (j.did hok rfl (GS.Le.refl _) j.holds j.hr rfl)))
    · exact step_of rfl (fun D a w G H hR j => by (have s := (j.sf.know _ _ (j.gotE 10 rfl (hR.was rfl 10 rfl))) ; exact o_assign (s.ev rfl) (j.did hok rfl (GS.Le.refl _) j.holds j.hr rfl)))
    have s4 := (j.sf.know _ _ (j.gotE 11 rfl (hall 11 (by decide))))
    have hH := j.hr
    subst H
    have hle10 := j.le
    have hG8 := (GS.Le.refl _).trans hle10
    have h9 : Holds _ _ ([(b, .cells #[p, .slice none 0 0] b_T (0, 0))] :: cr :: F) := j.holds
    clear j hall hok
    refine x_then_n ?_
    refine wp_ret ?_
    refine fin1 s4 rfl rfl ⟨_, _, rfl, hG8, h9.drop.drop, ?_⟩
    rfl
  ·
    have h : Holds _ _ ([(b, .cells #[p, .slice (some ⟨g0, 0, none⟩) b_l.length cap] b_T (0, 0))] :: cr :: F) := h.split
    refine wp_seq ?_
    refine wp_region_lit ?_
    refine q_of s0 rfl (fun _ k => o_assign (s0.ev rfl) k) (fun a11 s12 => ?_)
    refine wpList_nil ?_
    refine x_then_n ?_
    refine wp_seq ?_
    have hok : okX 14 [(0, .pointer (some ⟨b, 0, none⟩))] [(some 3, Fact.eq (.pointer (some ⟨b, 0, none⟩))), (some 4, Fact.eq (.pointer (some ⟨b, 0, none⟩))), (some 5, Fact.eq (.pointer (some ⟨b, 1, none⟩))), (some 6, Fact.eq (.slice (some ⟨g0, 0, none⟩) b_l.length cap)), (some 7, Fact.eq (.pointer (some ⟨g0, 0, none⟩))), (some 8, Fact.eq (.pointer (some ⟨b, 0, none⟩))), (some 9, Fact.eq (.pointer (some ⟨b, 0, none⟩))), (some 10, Fact.eq (.pointer (some ⟨b, 1, none⟩))), (some 11, Fact.eq (.slice (some ⟨g0, 0, none⟩) b_l.length cap)), (some 12, Fact.eq (.int .i64 (b_l.length : Int))), (some 13, Fact.eq (S b_l)), (some 2, Fact.eq (S b_l))] [] = true := rfl
    refine region_draw (N := 14) (L0 := [(0, .pointer (some ⟨b, 0, none⟩))]) (X := [(some 3, Fact.eq (.pointer (some ⟨b, 0, none⟩))), (some 4, Fact.eq (.pointer (some ⟨b, 0, none⟩))), (some 5, Fact.eq (.pointer (some ⟨b, 1, none⟩))), (some 6, Fact.eq (.slice (some ⟨g0, 0, none⟩) b_l.length cap)), (some 7, Fact.eq (.pointer (some ⟨g0, 0, none⟩))), (some 8, Fact.eq (.pointer (some ⟨b, 0, none⟩))), (some 9, Fact.eq (.pointer (some ⟨b, 0, none⟩))), (some 10, Fact.eq (.pointer (some ⟨b, 1, none⟩))), (some 11, Fact.eq (.slice (some ⟨g0, 0, none⟩) b_l.length cap)), (some 12, Fact.eq (.int .i64 (b_l.length : Int))), (some 13, Fact.eq (S b_l)), (some 2, Fact.eq (S b_l))]) (O := []) (HR := fun D a _ H => H = ((bif D 10 then F else ([(b, .cells #[p, .slice (some ⟨g0, 0, none⟩) b_l.length cap] b_T (0, 0))] :: cr :: F)))) mixed rfl h rfl (s12.sub (all_cons rfl (all_nil))) (fun i k t v hi => by simp at hi) ⟨?_, ?_, ?_, ?_, ?_, ?_, ?_, ?_, ?_, ?_, ?_, ?_, trivial⟩ (fun D a w G H hall j => ?_)
    · exact step_of rfl (fun D a w G H hR j => by (have s := j.sf ; exact o_move (s.ev rfl) (j.did hok rfl (GS.Le.refl _) j.holds j.hr rfl)))
    · exact step_of rfl (fun D a w G H hR j => by (have s := (j.sf.know _ _ (j.gotE 0 rfl (hR.was rfl 0 rfl))) ; exact o_nil (s.ev rfl) rfl (j.did hok rfl (GS.Le.refl _) j.holds j.hr rfl)))
    · exact step_of rfl (fun D a w G H hR j => by (have s := (j.sf.know _ _ (j.gotE 1 rfl (hR.was rfl 1 rfl))) ; exact o_fieldAddr (s.ev rfl) off78_1 (j.did hok rfl (GS.Le.refl _) j.holds j.hr rfl)))
    · exact step_of rfl (fun D a w G H hR j => by (have he10 : D 10 = false := (hR.not (k := 10) (j := 4) rfl rfl (hR.not (k := 4) (j := 3) rfl rfl hR.todo)) ; have hH := j.hr ; simp only [he10, cond_true, cond_false] at hH ; subst H ; have s := (j.sf.know _ _ (j.gotE 2 rfl (hR.was rfl 2 rfl))) ; exact o_loadOne (s.ev rfl) ag76 ((j.holds.rowI 0 0 (cs := [.slice (some ⟨g0, 0, none⟩) b_l.length cap]) (o := 1) rfl rfl rfl) 0 _ rfl) (j.did hok rfl (GS.Le.refl _) j.holds j.hr rfl)))
    · exact step_of rfl (fun D a w G H hR j => by (have s := (j.sf.know _ _ (j.gotE 3 rfl (hR.was rfl 3 rfl))) ; exact o_sliceData (s.ev rfl) (by omega) (j.did hok rfl (GS.Le.refl _) j.holds j.hr rfl)))
    · exact step_of rfl (fun D a w G H hR j => by (have s := j.sf ; exact o_move (s.ev rfl) (j.did hok rfl (GS.Le.refl _) j.holds j.hr rfl)))
    · exact step_of rfl (fun D a w G H hR j => by (have s := (j.sf.know _ _ (j.gotE 5 rfl (hR.was rfl 5 rfl))) ; exact o_nil (s.ev rfl) rfl (j.did hok rfl (GS.Le.refl _) j.holds j.hr rfl)))
    · exact step_of rfl (fun D a w G H hR j => by (have s := (j.sf.know _ _ (j.gotE 6 rfl (hR.was rfl 6 rfl))) ; exact o_fieldAddr (s.ev rfl) off78_1 (j.did hok rfl (GS.Le.refl _) j.holds j.hr rfl)))
    · exact step_of rfl (fun D a w G H hR j => by (have he10 : D 10 = false := (hR.not (k := 10) (j := 9) rfl rfl (hR.not (k := 9) (j := 8) rfl rfl hR.todo)) ; have hH := j.hr ; simp only [he10, cond_true, cond_false] at hH ; subst H ; have s := (j.sf.know _ _ (j.gotE 7 rfl (hR.was rfl 7 rfl))) ; exact o_loadOne (s.ev rfl) ag76 ((j.holds.rowI 0 0 (cs := [.slice (some ⟨g0, 0, none⟩) b_l.length cap]) (o := 1) rfl rfl rfl) 0 _ rfl) (j.did hok rfl (GS.Le.refl _) j.holds j.hr rfl)))
    · exact step_of rfl (fun D a w G H hR j => by (have s := (j.sf.know _ _ (j.gotE 8 rfl (hR.was rfl 8 rfl))) ; exact o_len (s.ev rfl) und76 (j.did hok rfl (GS.Le.refl _) j.holds j.hr rfl)))
    · exact step_of rfl (fun D a w G H hR j => by (have hH := j.hr ; simp only [cond_true, cond_false, hR.todo] at hH ; subst H ; have s := ((j.sf.know _ _ (j.gotE 4 rfl (hR.was rfl 4 rfl))).know _ _ (j.gotE 9 rfl (hR.was rfl 9 rfl))) ; exact o_unsafeString (j.holds.front 1 rfl).dropsnd r (s.ev rfl) (s.ev rfl) rfl und144 (by kernel_rfl) hne (fun w' hh => j.did hok rfl (GS.Le.refl _) (show Holds _ _ F from hh) (by simp only [setD_self, cond_true, cond_false, vblk_ptr, vblk_slice, put_none, getD_put_self (show 13 < a.tmps.size by rw [j.sf.size] ; decide)]) rfl)))
    · exact step_of rfl (fun D a w G H hR j => by (have s := (j.sf.know _ _ (j.gotE 10 rfl (hR.was rfl 10 rfl))) ; exact o_assign (s.ev rfl) (j.did hok rfl (GS.Le.refl _) j.holds j.hr rfl)))
    have s14 := (j.sf.know _ _ (j.gotE 11 rfl (hall 11 (by decide))))
    have hH := j.hr
    simp only [hall 10 (by decide), cond_true] at hH
    subst H
    have hle20 := j.le
    have hG18 := (GS.Le.refl _).trans hle20
    have h19 : Holds _ _ (F) := j.holds
    clear j hall hok
    refine x_then_n ?_
    refine wp_ret ?_
    refine fin1 s14 rfl rfl ⟨_, _, rfl, hG18, h19, ?_⟩
    rfl
theorem bld_Ts : ∀ Ty ∈ [78, 80], BldT Ty := by
  intro Ty h
  simp only [List.mem_cons, List.not_mem_nil, or_false] at h
  rcases h with rfl | rfl <;> (unfold BldT ; kernel_rfl)
theorem na_write : NatE Tryz.prog 44 1 (spWrite [78, 80]) := natE_write bld_Ts fun Ty b l c t G w F hT hb hl hh => bStr_spec t hT hb hl hh
theorem na_byte : NatE Tryz.prog 46 1 (spByte [78, 80]) := natE_byte bld_Ts fun Ty b l c z G w F hT hb hz hl hh => bByte_spec z hT hb hz hl hh
theorem na_get : NatE Tryz.prog 16 0 (spGet [78, 80]) := natE_get bld_Ts fun Ty b l c G w F hT hb hh => bGet_spec hT hb hh
theorem tabAt : Tryz.prog.globalNamed "internal/strconv.uint64pow10" = some 0 := by kernel_rfl
theorem itoa_all (z : Int) (G : GS) (w : World) (F : List Chunk) (hz : InR 0 z) (t : Tied G.M) (h : Holds G w F) : Calls Tryz.prog 14 #[.int .i64 z] w (Ret G F fun _ v => v = S (Lib.itoa z)) :=
  (Tryz.strconv_Itoa z hz.1 hz.2 w ((Tied.gvar tabAt t).var h)).mono fun _ _ ⟨he, k, os, hw⟩ => ⟨_, G, he, GS.Le.refl G, h.ext (hw ▸ below_growN w k os), rfl⟩
theorem na_itoa : NatE Tryz.prog 14 0 (spN1 0 Lib.itoa) := natE_N1 fun z G w F hz t h => itoa_all z G w F hz t h
theorem na_itoaL : NatE Tryz.prog 14 0 (spNL 0 100000000000000000000 tl0) := natE_NL (by decide) (ts := []) tl0_ok fun n G w F _ hz t h => by
  rw [← itoa_nat]
  exact itoa_all n G w F hz t h
theorem na_small : NatE Tryz.prog 101 0 (spNL 0 100 tl0) := natE_NL (by decide) (ts := []) tl0_ok fun n G w F hn hz t h => (Tryz.internal_strconv_small n hn w).mono fun _ _ ⟨he, hw⟩ => ⟨_, G, he, GS.Le.refl G, hw ▸ h, rfl⟩
theorem na_fmt : NatE Tryz.prog 73 0 (spN2 0 10 Lib.itoa) := natE_N2 fun z G w F hz t h =>
  (Tryz.strconv_FormatInt_10 z hz.1 hz.2 w ((Tied.gvar tabAt t).var h)).mono fun _ _ ⟨he, k, os, hw⟩ => ⟨_, G, he, GS.Le.refl G, h.ext (hw ▸ below_growN w k os), rfl⟩
theorem na_join : NatE Tryz.prog 45 0 spJoin := natE_join (fun bk o c ws sep w hc hb h1 h2 h3 => by
    have e1 : (ws.map fun x => (⟨x.toArray⟩ : ByteArray)).map (fun b => b.data.toList) = ws := by simp [Function.comp_def]
    have hj := Tryz.strings_Join bk o c (ws.map fun x => (⟨x.toArray⟩ : ByteArray)) ⟨sep.toArray⟩ w (fun j x hx => by
      rw [List.getElem?_map, Option.map_eq_some_iff] at hx
      obtain ⟨y, hy, rfl⟩ := hx
      exact hc j y hy) hb (by simpa using h1) (by simpa using h2) (by rw [e1]; exact h3)
    rw [e1, List.length_map] at hj
    exact hj.mono fun _ _ ⟨he, hw⟩ => ⟨he, hw⟩) (fun a c sep w => (Tryz.strings_Join_none a c ⟨sep.toArray⟩ w).mono fun _ _ ⟨he, hw⟩ => ⟨he, hw ▸ Below.refl w.heap.size w⟩)
end Go.Proofs.YtecafdjefholfaaGreatDoor