/- A region that draws, walked in one order: what may be moved, and what must be looked at again. No condition: plain lemmas. -/
import Derived.Test.YtkahniffcehicaaReg
import Derived.Orders
namespace Go.Eng
open Go Go.RowKit

/-- How an operation stands in the plan: it hangs on slots alone; it reads the world; it may turn the world; it is looked at again. -/
inductive Kd | P | R | E | A
def Q0 : Exit → Act → World → Prop := fun _ _ _ => False
theorem Q0_lets : ¬ LetsOut Q0 := fun ⟨_, _, h⟩ => h
def QK (K : Act → World → Prop) : Exit → Act → World → Prop := fun e a w => match e with | .normal => K a w | _ => False
theorem QK_lets {K : Act → World → Prop} : ¬ LetsOut (QK K) := fun ⟨_, _, h⟩ => h

section
variable {P : Program} {ops : Array Oper} {a a' : Act} {w w' : World} {K K' : Act → World → Prop} {i j : Nat} {o : Oper}

def op1 (P : Program) (ops : Array Oper) (i : Nat) (K : Act → World → Prop) (a : Act) (w : World) : Prop := wpOp P ops Q0 i K a w
theorem op1.mono (h : op1 P ops i K a w) (hk : ∀ a w, K a w → K' a w) : op1 P ops i K' a w := wpOp_mono hk h
def dstOf (ops : Array Oper) (i : Nat) : Option Tmp := (ops[i]?).bind (·.dst)
theorem dstOf_eq (h : ops[i]? = some o) : dstOf ops i = o.dst := by simp [dstOf, h]

/-- How the frame comes out of an operation. -/
def Sh (x : Option Tmp) (a a' : Act) : Prop := ∃ u, a' = a.put x u ∨ ∃ d, a' = ({ a with defers := d :: a.defers } : Act).put x u

theorem put_defers (a : Act) (x : Option Tmp) (v : Value) : (a.put x v).defers = a.defers := by cases x <;> rfl
theorem put_with (a : Act) (x : Option Tmp) (v : Value) (d : Deferred) : ({ (a.put x v) with defers := d :: (a.put x v).defers } : Act) = ({ a with defers := d :: a.defers } : Act).put x v := by cases x <;> rfl

structure Far (ops : Array Oper) (x : Option Tmp) (o : Oper) : Prop where
  look : ∀ d, x = some d → d ∉ o.looksAt ops
  dst : ∀ d, x = some d → o.dst ≠ some d
  sel : ∀ cs b, o.op ≠ .select cs b

/-- A slot that the operation neither reads nor writes may be written behind it. -/
theorem op1_pull (hi : ops[i]? = some o) {x : Option Tmp} {v : Value} (f : Far ops x o) (h : op1 P ops i K (a.put x v) w) : op1 P ops i (fun a' w' => K (a'.put x v) w' ∧ Sh o.dst a a') a w := by
  unfold op1 wpOp at *
  simp only [hi] at *
  rw [wanted_put o a x v f.look] at h
  split
  · rename_i hw
    simp only [hw, if_true] at h
    rcases h with h | ⟨_, hl⟩
    case inr => exact absurd hl Q0_lets
    refine .inl ?_
    unfold Oper.wp at *
    rw [execOp_put o f.sel a x v f.look] at h
    generalize (execOp a.eval o).run P w = r at *
    have hc : ∀ u, (a.put o.dst u).put x v = (a.put x v).put o.dst u := fun u => (Act.put_comm a v u f.dst).symm
    cases r with
    | ok n w' =>
      cases n <;> simp only [Oper.upon] at h ⊢
      case value u => exact ⟨by rw [hc]; exact h, u, .inl rfl⟩
      case skip => exact ⟨by rw [hc]; exact h, _, .inl rfl⟩
      case defer d =>
        refine ⟨?_, _, .inr ⟨d, rfl⟩⟩
        rw [put_with] at h
        rw [← Act.put_comm _ v undef f.dst]
        exact h
      case enter g args =>
        refine Calls.mono h fun e w'' he => ?_
        cases e with
        | returned u => exact ⟨by rw [hc]; exact he, u, .inl rfl⟩
        | panicked c => exact he
        | outgrown => exact he
      case row row args => exact Rows.mono h fun u w'' he => ⟨by rw [hc]; exact he, u, .inl rfl⟩
    | halt y w' => cases y <;> simp only [Oper.upon] at h ⊢ ; exact h
  · rename_i hw
    simp only [hw] at h
    exact ⟨by rw [← Act.put_comm a v undef f.dst]; exact h, _, .inl rfl⟩
theorem op1_push (hi : ops[i]? = some o) {x : Option Tmp} {v : Value} (f : Far ops x o) (h : op1 P ops i K a w) : op1 P ops i (fun a' w' => ∃ a3, a' = a3.put x v ∧ K a3 w') (a.put x v) w := by
  unfold op1 wpOp at *
  simp only [hi] at *
  rw [wanted_put o a x v f.look]
  split
  · rename_i hw
    simp only [hw, if_true] at h
    rcases h with h | ⟨_, hl⟩
    case inr => exact absurd hl Q0_lets
    refine .inl ?_
    unfold Oper.wp at *
    rw [execOp_put o f.sel a x v f.look]
    generalize (execOp a.eval o).run P w = r at *
    have hc : ∀ u, (a.put x v).put o.dst u = (a.put o.dst u).put x v := fun u => Act.put_comm a v u f.dst
    cases r with
    | ok n w' =>
      cases n <;> simp only [Oper.upon] at h ⊢
      case value u => exact ⟨_, hc u, h⟩
      case skip => exact ⟨_, hc _, h⟩
      case defer d =>
        refine ⟨_, ?_, h⟩
        rw [put_with]
        exact Act.put_comm _ v undef f.dst
      case enter g args =>
        refine Calls.mono h fun e w'' he => ?_
        cases e with
        | returned u => exact ⟨_, hc u, he⟩
        | panicked c => exact he
        | outgrown => exact he
      case row row args => exact Rows.mono h fun u w'' he => ⟨_, hc u, he⟩
    | halt y w' => cases y <;> simp only [Oper.upon] at h ⊢ ; exact h
  · rename_i hw
    simp only [hw] at h
    exact ⟨_, Act.put_comm a v undef f.dst, h⟩
theorem put_put (a : Act) (x : Option Tmp) (u v : Value) : (a.put x u).put x v = a.put x v := by
  cases x with
  | none => rfl
  | some d => simp [Act.put]
theorem op1_self (hi : ops[i]? = some o) {v : Value} (hl : ∀ d, o.dst = some d → d ∉ o.looksAt ops) (hs : ∀ cs b, o.op ≠ .select cs b) (h : op1 P ops i K (a.put o.dst v) w) : op1 P ops i K a w := by
  unfold op1 wpOp at *
  simp only [hi] at *
  rw [wanted_put o a o.dst v hl] at h
  split
  · rename_i hw
    simp only [hw, if_true] at h
    rcases h with h | ⟨_, hl⟩
    case inr => exact absurd hl Q0_lets
    refine .inl ?_
    unfold Oper.wp at *
    rw [execOp_put o hs a o.dst v hl] at h
    generalize (execOp a.eval o).run P w = r at *
    cases r with
    | ok n w' =>
      cases n <;> simp only [Oper.upon] at h ⊢
      case value u => rw [put_put] at h; exact h
      case skip => rw [put_put] at h; exact h
      case defer d => rw [put_with, put_put] at h; exact h
      case enter g args =>
        refine Calls.mono h fun e w'' he => ?_
        cases e with
        | returned u => (have he' : K ((a.put o.dst v).put o.dst u) w'' := he); rw [put_put] at he'; exact he'
        | panicked c => exact he
        | outgrown => exact he
      case row row args => exact Rows.mono h fun u w'' he => by rw [put_put] at he; exact he
    | halt y w' => cases y <;> simp only [Oper.upon] at h ⊢ ; exact h
  · rename_i hw
    simp only [hw] at h
    simp only [Bool.false_eq_true, if_false, put_put] at h
    exact h

/-- The operation leaves a value, and the world as it is. -/
def RV (P : Program) (ops : Array Oper) (i : Nat) (v : Value) (a : Act) (w : World) : Prop := op1 P ops i (fun a' w' => a' = a.put (dstOf ops i) v ∧ w' = w) a w
theorem RV.to {v : Value} (h : RV P ops i v a w) (hk : K (a.put (dstOf ops i) v) w) : op1 P ops i K a w := h.mono fun a' w' ⟨h1, h2⟩ => by rw [h1, h2]; exact hk
theorem RV.push (hi : ops[i]? = some o) {x : Option Tmp} {u v : Value} (f : Far ops x o) (h : RV P ops i v a w) : RV P ops i v (a.put x u) w := by
  refine (op1_push (v := u) hi f h).mono fun a' w' ⟨a3, h1, h2, h3⟩ => ⟨?_, h3⟩
  rw [h1, h2, dstOf_eq hi]
  exact (Act.put_comm a u v f.dst).symm
theorem put_inj {a : Act} {x y : Option Tmp} {u p q : Value} (hxy : ∀ d, x = some d → y ≠ some d) (h : (a.put x u).put y p = (a.put x u).put y q) : a.put y p = a.put y q := by
  cases y with
  | none => rfl
  | some e =>
    by_cases he : e < a.tmps.size
    · have h1 := congrArg (fun b : Act => b.tmps[e]?) h
      cases x with
      | none => exact h
      | some d => 
        simp [Act.put, he] at h1
        rw [h1]
    · simp [Act.put, Array.setIfInBounds, he]
theorem put_id {a : Act} {x y : Option Tmp} {v u : Value} (hxy : ∀ d, x = some d → y ≠ some d) (h : (a.put x v).put y u = a.put x v) : a.put y u = a := by
  cases y with
  | none => rfl
  | some e =>
    have hset : a.tmps[e]? = some u ∨ a.tmps.size ≤ e := by
      rcases Nat.lt_or_ge e a.tmps.size with he | he
      · refine .inl ?_
        have h1 := congrArg (fun q : Act => q.tmps[e]?) h
        cases x with
        | none =>
          simp only [Act.put] at h1
          rw [Array.getElem?_setIfInBounds_self_of_lt he] at h1
          exact h1.symm
        | some d =>
          have hde : d ≠ e := fun q => hxy d rfl (by rw [q])
          simp only [Act.put] at h1
          rw [Array.getElem?_setIfInBounds_self_of_lt (by simpa using he), Array.getElem?_setIfInBounds_ne hde] at h1
          exact h1.symm
      · exact .inr he
    have : a.tmps.setIfInBounds e u = a.tmps := by
      apply Array.ext_getElem?
      intro j
      by_cases q : e = j
      · subst q
        rcases hset with q | q
        · obtain ⟨hlt, _⟩ := Array.getElem?_eq_some_iff.1 q
          rw [Array.getElem?_setIfInBounds_self_of_lt hlt, q]
        · rw [Array.getElem?_eq_none (by simpa using q), Array.getElem?_eq_none q]
      · rw [Array.getElem?_setIfInBounds_ne q]
    simp only [Act.put, this]
theorem RV.pull (hi : ops[i]? = some o) {x : Option Tmp} {u v : Value} (f : Far ops x o) (h : RV P ops i v (a.put x u) w) : RV P ops i v a w := by
  refine (op1_pull hi f h).mono fun a' w' ⟨⟨h1, h2⟩, z, h3⟩ => ⟨?_, h2⟩
  rw [dstOf_eq hi] at h1 ⊢
  rcases h3 with rfl | ⟨d, rfl⟩
  · rw [← Act.put_comm a u z f.dst] at h1
    exact put_inj f.dst h1
  · have := congrArg Act.defers h1
    rw [put_defers, put_defers, put_defers, put_defers] at this
    have := congrArg List.length this
    simp at this
theorem RV.self (hi : ops[i]? = some o) {u v : Value} (hl : ∀ d, o.dst = some d → d ∉ o.looksAt ops) (hs : ∀ cs b, o.op ≠ .select cs b) (h : RV P ops i v (a.put o.dst u) w) : RV P ops i v a w := by
  unfold RV at h
  rw [dstOf_eq hi] at h
  simp only [put_put] at h
  unfold RV
  rw [dstOf_eq hi]
  exact op1_self hi hl hs h
theorem RV.defer {v : Value} {d : Deferred} (hi : ops[i]? = some o) (h : RV P ops i v a w) : RV P ops i v { a with defers := d :: a.defers } w := by
  unfold RV op1 wpOp at *
  rw [dstOf_eq hi] at *
  simp only [hi] at *
  have hev : ({ a with defers := d :: a.defers } : Act).eval = a.eval := funext fun x => by cases x <;> rfl
  split
  · rename_i hw
    simp only [hw, if_true] at h
    rcases h with h | ⟨_, hl⟩
    case inr => exact absurd hl Q0_lets
    refine .inl ?_
    unfold Oper.wp at *
    rw [hev]
    generalize (execOp a.eval o).run P w = r at *
    have hc : ∀ u, a.put o.dst u = a.put o.dst v → ({ a with defers := d :: a.defers } : Act).put o.dst u = ({ a with defers := d :: a.defers } : Act).put o.dst v := fun u hu => by
      have := congrArg Act.tmps hu
      cases hd : o.dst with
      | none => rfl
      | some t => rw [hd] at this; simp only [Act.put] at this ⊢; rw [this]
    cases r with
    | ok n w' =>
      cases n <;> simp only [Oper.upon] at h ⊢
      case value u => exact ⟨hc u h.1, h.2⟩
      case skip => exact ⟨hc _ h.1, h.2⟩
      case defer e =>
        exfalso
        have := congrArg List.length (congrArg Act.defers h.1)
        rw [put_defers, put_defers] at this
        simp at this
      case enter g args =>
        refine Calls.mono h fun e w'' he => ?_
        cases e with
        | returned u => exact ⟨hc u he.1, he.2⟩
        | panicked c => exact he
        | outgrown => exact he
      case row row args => exact Rows.mono h fun u w'' he => ⟨hc u he.1, he.2⟩
    | halt y w' => cases y <;> simp only [Oper.upon] at h ⊢ ; exact h
  · rename_i hw
    simp only [hw] at h
    have := congrArg Act.tmps h.1
    refine ⟨?_, h.2⟩
    cases hd : o.dst with
    | none => rfl
    | some t => rw [hd] at this; simp only [Act.put] at this ⊢; rw [this]
/-- A reading stays behind what another operation does to the slots. -/
theorem RV.sh (hi : ops[i]? = some o) {v : Value} {x : Option Tmp} (f : Far ops x o) (hs : Sh x a a') (h : RV P ops i v a w) : RV P ops i v a' w := by
  obtain ⟨u, rfl | ⟨d, rfl⟩⟩ := hs
  · exact h.push hi f
  · exact (h.defer hi).push hi f

/-! ### The plan -/
def wpL (P : Program) (ops : Array Oper) (Q : Act → World → Prop) : List (Nat × Kd) → Act → World → Prop
  | [], a, w => Q a w
  | (i, .P) :: r, a, w => ∃ v, (∀ w', RV P ops i v a w') ∧ wpL P ops Q r (a.put (dstOf ops i) v) w
  | (i, .R) :: r, a, w => ∃ v, RV P ops i v a w ∧ wpL P ops Q r (a.put (dstOf ops i) v) w
  | (i, .E) :: r, a, w => op1 P ops i (wpL P ops Q r) a w
  | (i, .A) :: r, a, w => (∃ v, RV P ops i v a w ∧ a.put (dstOf ops i) v = a) ∧ wpL P ops Q r a w
/-- Without the second looks. -/
def once : List (Nat × Kd) → List (Nat × Kd)
  | [] => []
  | (_, .A) :: r => once r
  | x :: r => x :: once r
def noE : List (Nat × Kd) → Bool
  | [] => true
  | (_, .E) :: _ => false
  | _ :: r => noE r
def farB (ops : Array Oper) (b i : Nat) : Bool := match ops[b]?, ops[i]? with
  | some x, some y => (match x.dst with | some d => !(y.looksAt ops).contains d && (match y.dst with | some e => !Nat.beq e d | none => true) | none => true) && (match y.op with | .select .. => false | _ => true)
  | _, _ => false
def selfB (ops : Array Oper) (i : Nat) : Bool := match ops[i]? with
  | some y => (match y.dst with | some d => !(y.looksAt ops).contains d | none => true) && (match y.op with | .select .. => false | _ => true)
  | none => false
theorem farB_ok {b i : Nat} (h : farB ops b i = true) : ∃ x y, ops[b]? = some x ∧ ops[i]? = some y ∧ Far ops x.dst y := by
  unfold farB at h
  rcases hb : ops[b]? with _ | x
  · simp [hb] at h
  rcases hi : ops[i]? with _ | y
  · simp [hb, hi] at h
  simp only [hb, hi, Bool.and_eq_true] at h
  refine ⟨x, y, rfl, rfl, fun d hd hm => ?_, fun d hd he => ?_, fun cs c hc => ?_⟩
  · simp [hd, hm] at h
  · simp [hd, he] at h
  · simp [hc] at h
theorem selfB_ok {i : Nat} (h : selfB ops i = true) : ∃ y, ops[i]? = some y ∧ (∀ d, y.dst = some d → d ∉ y.looksAt ops) ∧ ∀ cs b, y.op ≠ .select cs b := by
  unfold selfB at h
  rcases hi : ops[i]? with _ | y
  · simp [hi] at h
  simp only [hi, Bool.and_eq_true] at h
  refine ⟨y, rfl, fun d hd hm => ?_, fun cs c hc => ?_⟩
  · simp [hd, hm] at h
  · simp [hc] at h
/-- Looked at again, ahead of the next that may turn the world; in between nothing that touches its slots. -/
def again (ops : Array Oper) (b : Nat) : List (Nat × Kd) → Bool
  | [] => false
  | (i, .A) :: r => Nat.beq i b || again ops b r
  | (_, .E) :: _ => false
  | (i, _) :: r => farB ops i b && again ops b r

theorem wpL_once {Q : Act → World → Prop} : ∀ {B C : List (Nat × Kd)} {a : Act} {w : World}, wpL P ops Q (B ++ C) a w → wpL P ops Q (once B ++ C) a w
  | [], _, _, _, h => h
  | (_, .P) :: B, C, a, w, ⟨v, h1, h2⟩ => ⟨v, h1, wpL_once h2⟩
  | (_, .R) :: B, C, a, w, ⟨v, h1, h2⟩ => ⟨v, h1, wpL_once h2⟩
  | (_, .E) :: B, C, a, w, h => op1.mono h fun _ _ h => wpL_once h
  | (_, .A) :: B, C, a, w, ⟨_, h2⟩ => wpL_once (B := B) h2

/-- What is looked at again is as it was. -/
theorem again_get {Q : Act → World → Prop} {b : Nat} {y : Oper} (hb : ops[b]? = some y) : ∀ {C : List (Nat × Kd)} {a : Act} {w : World}, again ops b C = true → wpL P ops Q C a w → ∃ v, RV P ops b v a w ∧ a.put y.dst v = a
  | [], _, _, h, _ => by simp [again] at h
  | (i, .A) :: r, a, w, h, ⟨⟨v, h1, h2⟩, h3⟩ => by
    simp only [again, Bool.or_eq_true] at h
    rcases h with h | h
    · have := Nat.eq_of_beq_eq_true h
      subst this
      exact ⟨v, h1, by rw [← dstOf_eq hb]; exact h2⟩
    · exact again_get hb h h3
  | (_, .E) :: r, _, _, h, _ => by simp [again] at h
  | (i, .P) :: r, a, w, h, ⟨v, h1, h2⟩ => by
    simp only [again, Bool.and_eq_true] at h
    obtain ⟨x, z, e1, e2, f⟩ := farB_ok h.1
    rw [hb] at e2; cases e2
    rw [dstOf_eq e1] at h2
    obtain ⟨u, g1, g2⟩ := again_get hb h.2 h2
    exact ⟨u, g1.pull hb f, put_id f.dst g2⟩
  | (i, .R) :: r, a, w, h, ⟨v, h1, h2⟩ => by
    simp only [again, Bool.and_eq_true] at h
    obtain ⟨x, z, e1, e2, f⟩ := farB_ok h.1
    rw [hb] at e2; cases e2
    rw [dstOf_eq e1] at h2
    obtain ⟨u, g1, g2⟩ := again_get hb h.2 h2
    exact ⟨u, g1.pull hb f, put_id f.dst g2⟩

/-- What must hold of two, the first ahead of the second, if the second may come first. -/
def pairB (ops : Array Oper) (b : Nat) (kb : Kd) (j : Nat) (kj : Kd) (C : List (Nat × Kd)) : Bool :=
  farB ops b j && farB ops j b && (match kb, kj with
    | .P, _ => true
    | .R, .E => selfB ops b && again ops b C
    | .R, _ => true
    | _, _ => false)
def pairsB (ops : Array Oper) (j : Nat) (kj : Kd) (C : List (Nat × Kd)) : List (Nat × Kd) → Bool
  | [] => true
  | (_, .A) :: B => pairsB ops j kj C B
  | (b, kb) :: B => pairB ops b kb j kj C && (match kb, kj with | .R, .E => (B.all fun p => match p.2 with | .A => true | _ => farB ops p.1 b) | _, _ => true) && pairsB ops j kj C B

theorem again_app {b : Nat} : ∀ {B C : List (Nat × Kd)}, (B.all fun p => match p.2 with | .A => true | _ => farB ops p.1 b) = true → noE B = true → again ops b C = true → again ops b (once B ++ C) = true
  | [], _, _, _, h => h
  | (_, .A) :: B, C, h, he, h2 => again_app (B := B) (by simpa using h) (by simpa [noE] using he) h2
  | (_, .E) :: B, C, h, he, h2 => by simp [noE] at he
  | (i, .P) :: B, C, h, he, h2 => by
    simp only [List.all_cons, Bool.and_eq_true] at h
    simp only [once, List.cons_append, again, Bool.and_eq_true]
    exact ⟨h.1, again_app h.2 (by simpa [noE] using he) h2⟩
  | (i, .R) :: B, C, h, he, h2 => by
    simp only [List.all_cons, Bool.and_eq_true] at h
    simp only [once, List.cons_append, again, Bool.and_eq_true]
    exact ⟨h.1, again_app h.2 (by simpa [noE] using he) h2⟩

/-- One that is no turning comes first. -/
theorem pullV {Q : Act → World → Prop} {j : Nat} {kj : Kd} (hk : kj = .P ∨ kj = .R) {C : List (Nat × Kd)} : ∀ {B : List (Nat × Kd)} {a : Act} {w : World}, noE B = true → pairsB ops j kj C B = true → wpL P ops Q (B ++ (j, kj) :: C) a w →
    ∃ v, RV P ops j v a w ∧ wpL P ops Q (once B ++ C) (a.put (dstOf ops j) v) w
  | [], a, w, _, _, h => by
    rcases hk with rfl | rfl
    · obtain ⟨v, h1, h2⟩ := h; exact ⟨v, h1 w, h2⟩
    · exact h
  | (_, .A) :: B, a, w, he, hp, h => pullV hk (B := B) (by simpa [noE] using he) (by simpa [pairsB] using hp) h.2
  | (_, .E) :: B, a, w, he, hp, h => by simp [noE] at he
  | (b, .P) :: B, a, w, he, hp, ⟨v, h1, h2⟩ => by
    simp only [pairsB, pairB, Bool.and_eq_true] at hp
    obtain ⟨x, y, e1, e2, f⟩ := farB_ok hp.1.1.1.1
    obtain ⟨y', x', e3, e4, f'⟩ := farB_ok hp.1.1.1.2
    rw [e2] at e3; cases e3
    rw [e1] at e4; cases e4
    obtain ⟨u, g1, g2⟩ := pullV hk (by simpa [noE] using he) hp.2 h2
    rw [dstOf_eq e1] at g1 g2
    rw [dstOf_eq e2] at g2 ⊢
    refine ⟨u, g1.pull e2 f, v, fun w' => (h1 w').push e1 f', ?_⟩
    rw [dstOf_eq e1, ← Act.put_comm a v u f.dst]
    exact g2
  | (b, .R) :: B, a, w, he, hp, ⟨v, h1, h2⟩ => by
    simp only [pairsB, pairB, Bool.and_eq_true] at hp
    obtain ⟨x, y, e1, e2, f⟩ := farB_ok hp.1.1.1.1
    obtain ⟨y', x', e3, e4, f'⟩ := farB_ok hp.1.1.1.2
    rw [e2] at e3; cases e3
    rw [e1] at e4; cases e4
    obtain ⟨u, g1, g2⟩ := pullV hk (by simpa [noE] using he) hp.2 h2
    rw [dstOf_eq e1] at g1 g2
    rw [dstOf_eq e2] at g2 ⊢
    refine ⟨u, g1.pull e2 f, v, h1.push e1 f', ?_⟩
    rw [dstOf_eq e1, ← Act.put_comm a v u f.dst]
    exact g2
/-- One that may turn the world comes first. -/
theorem pullE {Q : Act → World → Prop} {j : Nat} {C : List (Nat × Kd)} : ∀ {B : List (Nat × Kd)} {a : Act} {w : World}, noE B = true → pairsB ops j .E C B = true → wpL P ops Q (B ++ (j, .E) :: C) a w → op1 P ops j (wpL P ops Q (once B ++ C)) a w
  | [], a, w, _, _, h => h
  | (_, .A) :: B, a, w, he, hp, h => pullE (B := B) (by simpa [noE] using he) (by simpa [pairsB] using hp) h.2
  | (_, .E) :: B, a, w, he, hp, h => by simp [noE] at he
  | (b, .P) :: B, a, w, he, hp, ⟨v, h1, h2⟩ => by
    simp only [pairsB, pairB, Bool.and_eq_true] at hp
    obtain ⟨x, y, e1, e2, f⟩ := farB_ok hp.1.1.1.1
    obtain ⟨y', x', e3, e4, f'⟩ := farB_ok hp.1.1.1.2
    rw [e2] at e3; cases e3
    rw [e1] at e4; cases e4
    have g := pullE (by simpa [noE] using he) hp.2 h2
    rw [dstOf_eq e1] at g
    refine (op1_pull e2 f g).mono fun a' w' ⟨g1, g2⟩ => ⟨v, fun w'' => (h1 w'').sh e1 f' g2, ?_⟩
    rw [dstOf_eq e1]; exact g1
  | (b, .R) :: B, a, w, he, hp, ⟨v, h1, h2⟩ => by
    simp only [pairsB, pairB, Bool.and_eq_true] at hp
    obtain ⟨⟨⟨⟨p1, p2⟩, p3, p4⟩, p5⟩, p6⟩ := hp
    obtain ⟨x, y, e1, e2, f⟩ := farB_ok p1
    obtain ⟨x', e5, hl, hs⟩ := selfB_ok p3
    rw [e1] at e5; cases e5
    have heB : noE B = true := by simpa [noE] using he
    have g := pullE heB p6 h2
    rw [dstOf_eq e1] at g
    refine (op1_pull e2 f g).mono fun a' w' ⟨g1, _⟩ => ?_
    obtain ⟨u, r1, r2⟩ := again_get e1 (again_app p5 heB p4) g1
    rw [put_put] at r2
    have r3 := r1.self e1 hl hs
    refine ⟨u, r3, ?_⟩
    rw [dstOf_eq e1, r2]
    exact g1

/-! ### The whole region -/
def waits0 (ops : Array Oper) (j : Nat) : List Nat := match ops[j]? with
  | some o => (o.after.toList.filter (Region.binds .any)).map (·.on)
  | none => []
/-- What it waits for; ex: pairs of which the first comes first in the order at hand. -/
def waitsB (ops : Array Oper) (ex : List (Nat × Nat)) (j : Nat) : List Nat := waits0 ops j ++ (ex.filter fun p => Nat.beq p.2 j).map (·.1)
def reach (ops : Array Oper) (ex : List (Nat × Nat)) : Nat → Nat → Nat → Bool
  | 0, _, _ => false
  | f + 1, j, b => (waitsB ops ex j).any fun k => Nat.beq k b || reach ops ex f k b
def restB (ops : Array Oper) (ex : List (Nat × Nat)) (b : Nat) (kb : Kd) : List (Nat × Kd) → Bool
  | [] => true
  | (_, .A) :: r => restB ops ex b kb r
  | (j, kj) :: r => !Nat.beq j b && !(waitsB ops ex b).contains j && (reach ops ex 40 j b || pairB ops b kb j kj r) && (match kb with | .R => farB ops j b | _ => true) && restB ops ex b kb r
def okL (ops : Array Oper) (ex : List (Nat × Nat)) : List (Nat × Kd) → Bool
  | [] => true
  | (_, .A) :: r => okL ops ex r
  | (b, kb) :: r => !(waitsB ops ex b).contains b && restB ops ex b kb r && okL ops ex r
def cnt : List (Nat × Kd) → Nat
  | [] => 0
  | (_, .A) :: r => cnt r
  | _ :: r => cnt r + 1

def Done (listed : Array Bool) (k : Nat) : Prop := listed.getD k false = true
def Closed (ops : Array Oper) (ex : List (Nat × Nat)) (listed : Array Bool) : Prop := ∀ k, Done listed k → ∀ m ∈ waitsB ops ex k, Done listed m
section
variable {ex : List (Nat × Nat)}
theorem reach_done {listed : Array Bool} (hc : Closed ops ex listed) {b : Nat} : ∀ (f j : Nat), (∀ m ∈ waitsB ops ex j, Done listed m) → reach ops ex f j b = true → Done listed b
  | 0, _, _, h => by simp [reach] at h
  | f + 1, j, hj, h => by
    simp only [reach, List.any_eq_true, Bool.or_eq_true] at h
    obtain ⟨k, hk, h⟩ := h
    rcases h with h | h
    · have := Nat.eq_of_beq_eq_true h
      subst this; exact hj _ hk
    · exact reach_done hc f k (hc k (hj k hk)) h
theorem not_done {listed : Array Bool} {j : Nat} (h : listed.getD j true = false) : ¬ Done listed j := by
  unfold Done
  rcases Nat.lt_or_ge j listed.size with hl | hl
  · simp [hl] at h ⊢; exact h
  · simp [Array.getElem?_eq_none hl] at h

theorem kd_cases (k : Kd) : k = .A ∨ k ≠ .A := by cases k <;> simp
theorem restB_cons {b j : Nat} {kb kj : Kd} {r : List (Nat × Kd)} (hk : kj ≠ .A) (h : restB ops ex b kb ((j, kj) :: r) = true) :
    j ≠ b ∧ (waitsB ops ex b).contains j = false ∧ (reach ops ex 40 j b = true ∨ pairB ops b kb j kj r = true) ∧ (kb = .R → farB ops j b = true) ∧ restB ops ex b kb r = true := by
  cases kj
  case A => exact absurd rfl hk
  all_goals
    simp only [restB, Bool.and_eq_true, Bool.not_eq_true', Bool.or_eq_true] at h
    obtain ⟨⟨⟨⟨h1, h2⟩, h3⟩, h4⟩, h5⟩ := h
    refine ⟨fun e => by subst e; simp at h1, h2, h3, fun e => ?_, h5⟩
    subst e; exact h4
theorem restB_mk {b j : Nat} {kb kj : Kd} {r : List (Nat × Kd)} (hk : kj ≠ .A) (h1 : j ≠ b) (h2 : (waitsB ops ex b).contains j = false) (h3 : reach ops ex 40 j b = true ∨ pairB ops b kb j kj r = true) (h4 : kb = .R → farB ops j b = true) (h5 : restB ops ex b kb r = true) :
    restB ops ex b kb ((j, kj) :: r) = true := by
  have hb : Nat.beq j b = false := by
    cases e : Nat.beq j b with
    | false => rfl
    | true => exact absurd (Nat.eq_of_beq_eq_true e) h1
  cases kj
  case A => exact absurd rfl hk
  all_goals
    simp only [restB, Bool.and_eq_true, Bool.not_eq_true', Bool.or_eq_true]
    refine ⟨⟨⟨⟨hb, h2⟩, h3⟩, ?_⟩, h5⟩
    cases kb <;> first | rfl | exact h4 rfl
theorem okL_cons {b : Nat} {kb : Kd} {r : List (Nat × Kd)} (hk : kb ≠ .A) (h : okL ops ex ((b, kb) :: r) = true) : (waitsB ops ex b).contains b = false ∧ restB ops ex b kb r = true ∧ okL ops ex r = true := by
  cases kb
  case A => exact absurd rfl hk
  all_goals
    simp only [okL, Bool.and_eq_true, Bool.not_eq_true'] at h
    exact ⟨h.1.1, h.1.2, h.2⟩
theorem okL_mk {b : Nat} {kb : Kd} {r : List (Nat × Kd)} (h1 : (waitsB ops ex b).contains b = false) (h2 : restB ops ex b kb r = true) (h3 : okL ops ex r = true) : okL ops ex ((b, kb) :: r) = true := by
  cases kb <;> simp only [okL, Bool.and_eq_true, Bool.not_eq_true'] <;> first | exact ⟨⟨h1, h2⟩, h3⟩ | exact h3

theorem pairB_any {b j : Nat} {kb kj : Kd} {C C' : List (Nat × Kd)} (hk : kj ≠ .E) (h : pairB ops b kb j kj C = true) : pairB ops b kb j kj C' = true := by
  unfold pairB at h ⊢
  cases kb <;> cases kj <;> first | exact h | exact absurd rfl hk
theorem noE_cons {b : Nat} {kb : Kd} {B : List (Nat × Kd)} (h : noE ((b, kb) :: B) = true) : kb ≠ .E ∧ noE B = true := by
  cases kb <;> simp [noE] at h ⊢ <;> exact h
/-- What was said of one and all behind it still holds without one of them. -/
theorem restB_out {b j : Nat} {kb k : Kd} {C : List (Nat × Kd)} : ∀ {B : List (Nat × Kd)}, noE B = true → restB ops ex b kb (B ++ (j, k) :: C) = true → restB ops ex b kb (once B ++ C) = true
  | [], _, h => by
    rcases kd_cases k with rfl | hk
    · exact h
    · exact (restB_cons hk h).2.2.2.2
  | (i, ki) :: B, he, h => by
    obtain ⟨h0, h1⟩ := noE_cons he
    rcases kd_cases ki with rfl | hk
    · exact restB_out (B := B) h1 h
    · obtain ⟨a1, a2, a3, a4, a5⟩ := restB_cons hk h
      have : once ((i, ki) :: B) = (i, ki) :: once B := by cases ki <;> first | rfl | exact absurd rfl hk
      rw [this]
      exact restB_mk hk a1 a2 (a3.imp id (pairB_any h0)) a4 (restB_out h1 a5)
theorem okL_out {j : Nat} {k : Kd} {C : List (Nat × Kd)} : ∀ {B : List (Nat × Kd)}, noE B = true → okL ops ex (B ++ (j, k) :: C) = true → okL ops ex (once B ++ C) = true
  | [], _, h => by
    rcases kd_cases k with rfl | hk
    · exact h
    · exact (okL_cons hk h).2.2
  | (i, ki) :: B, he, h => by
    obtain ⟨h0, h1⟩ := noE_cons he
    rcases kd_cases ki with rfl | hk
    · exact okL_out (B := B) h1 h
    · obtain ⟨a1, a2, a3⟩ := okL_cons hk h
      have : once ((i, ki) :: B) = (i, ki) :: once B := by cases ki <;> first | rfl | exact absurd rfl hk
      rw [this]
      exact okL_mk a1 (restB_out h1 a2) (okL_out h1 a3)
theorem restB_at {b j : Nat} {kb kj : Kd} (hk : kj ≠ .A) {C : List (Nat × Kd)} : ∀ {B : List (Nat × Kd)}, restB ops ex b kb (B ++ (j, kj) :: C) = true → j ≠ b ∧ (reach ops ex 40 j b = true ∨ pairB ops b kb j kj C = true) ∧ (kb = .R → (B.all fun p => match p.2 with | .A => true | _ => farB ops p.1 b) = true)
  | [], h => by
    obtain ⟨a1, a2, a3, a4, a5⟩ := restB_cons hk h
    exact ⟨a1, a3, fun _ => rfl⟩
  | (i, ki) :: B, h => by
    rcases kd_cases ki with rfl | hki
    · obtain ⟨b1, b2, b3⟩ := restB_at hk (B := B) h
      exact ⟨b1, b2, fun e => by simpa using b3 e⟩
    · obtain ⟨a1, a2, a3, a4, a5⟩ := restB_cons hki h
      obtain ⟨b1, b2, b3⟩ := restB_at hk a5
      refine ⟨b1, b2, fun e => ?_⟩
      rw [List.all_cons, b3 e, Bool.and_true]
      have := a4 e
      cases ki <;> first | rfl | exact this
/-- One whose waits are done: what stands ahead of it lets it by. -/
theorem okL_pairs {j : Nat} {kj : Kd} (hk : kj ≠ .A) {C : List (Nat × Kd)} : ∀ {B : List (Nat × Kd)}, okL ops ex (B ++ (j, kj) :: C) = true → (∀ b kb, (b, kb) ∈ B → kb ≠ .A → reach ops ex 40 j b = false) →
    noE B = true ∧ pairsB ops j kj C B = true ∧ ∀ b kb, (b, kb) ∈ B → kb ≠ .A → b ≠ j
  | [], _, _ => ⟨rfl, rfl, fun _ _ h => by simp at h⟩
  | (i, ki) :: B, h, hr => by
    rcases kd_cases ki with rfl | hki
    · obtain ⟨b1, b2, b3⟩ := okL_pairs hk (B := B) h fun b kb hm => hr b kb (by simp [hm])
      exact ⟨b1, b2, fun b kb hm hne => by
        rcases List.mem_cons.1 hm with e | hm
        · cases e; exact absurd rfl hne
        · exact b3 b kb hm hne⟩
    · obtain ⟨a1, a2, a3⟩ := okL_cons hki h
      obtain ⟨b1, b2, b3⟩ := okL_pairs hk a3 fun b kb hm => hr b kb (by simp [hm])
      obtain ⟨c1, c2, c3⟩ := restB_at hk a2
      have hp : pairB ops i ki j kj C = true := c2.resolve_left (by rw [hr i ki (by simp) hki]; decide)
      refine ⟨?_, ?_, fun b kb hm hne => ?_⟩
      · cases ki
        case E => simp [pairB] at hp
        case A => exact absurd rfl hki
        all_goals exact b1
      · cases ki
        case A => exact absurd rfl hki
        case R =>
          have h3 := c3 rfl
          simp only [pairsB, Bool.and_eq_true]
          refine ⟨⟨hp, ?_⟩, b2⟩
          cases kj <;> first | rfl | exact h3
        all_goals
          simp only [pairsB, Bool.and_eq_true]
          exact ⟨⟨hp, trivial⟩, b2⟩
      · rcases List.mem_cons.1 hm with e | hm
        · cases e; exact c1.symm
        · exact b3 b kb hm hne
theorem restB_ne {b : Nat} {kb : Kd} : ∀ {r : List (Nat × Kd)}, restB ops ex b kb r = true → ∀ j kj, (j, kj) ∈ r → kj ≠ .A → j ≠ b ∧ (waitsB ops ex b).contains j = false
  | [], _, _, _, hm, _ => by simp at hm
  | (i, ki) :: r, h, j, kj, hm, hne => by
    rcases kd_cases ki with rfl | hki
    · rcases List.mem_cons.1 hm with e | hm
      · cases e; exact absurd rfl hne
      · exact restB_ne (r := r) h j kj hm hne
    · obtain ⟨a1, a2, a3, a4, a5⟩ := restB_cons hki h
      rcases List.mem_cons.1 hm with e | hm
      · cases e; exact ⟨a1, a2⟩
      · exact restB_ne a5 j kj hm hne
theorem okL_mid {j : Nat} {kj : Kd} (hk : kj ≠ .A) {C : List (Nat × Kd)} : ∀ {B : List (Nat × Kd)}, okL ops ex (B ++ (j, kj) :: C) = true → restB ops ex j kj C = true
  | [], h => (okL_cons hk h).2.1
  | (i, ki) :: B, h => by
    rcases kd_cases ki with rfl | hki
    · exact okL_mid hk (B := B) h
    · exact okL_mid hk (okL_cons hki h).2.2
theorem mem_once {b : Nat} {kb : Kd} (hk : kb ≠ .A) : ∀ {B : List (Nat × Kd)}, (b, kb) ∈ B → (b, kb) ∈ once B
  | [], h => by simp at h
  | (i, ki) :: B, h => by
    rcases List.mem_cons.1 h with e | h
    · cases e
      cases kb <;> first | exact absurd rfl hk | simp [once]
    · have := mem_once hk h
      cases ki <;> simp [once, this]
theorem once_mem {b : Nat} {kb : Kd} : ∀ {B : List (Nat × Kd)}, (b, kb) ∈ once B → (b, kb) ∈ B
  | [], h => by simp [once] at h
  | (i, ki) :: B, h => by
    cases ki
    case A => exact List.mem_cons_of_mem _ (once_mem (B := B) h)
    all_goals
      rcases List.mem_cons.1 (show (b, kb) ∈ _ :: once B from h) with e | h
      · rw [e]; exact List.mem_cons_self
      · exact List.mem_cons_of_mem _ (once_mem h)
theorem cnt_out {j : Nat} {k : Kd} (hk : k ≠ .A) {C : List (Nat × Kd)} : ∀ {B : List (Nat × Kd)}, cnt (B ++ (j, k) :: C) = cnt (once B ++ C) + 1
  | [] => by cases k <;> first | rfl | exact absurd rfl hk
  | (i, ki) :: B => by
    have := cnt_out hk (B := B) (C := C) (j := j)
    cases ki <;> simp only [List.cons_append, once, cnt] <;> omega
theorem wpL_done {Q : Act → World → Prop} : ∀ {R : List (Nat × Kd)} {a : Act} {w : World}, cnt R = 0 → wpL P ops Q R a w → Q a w
  | [], _, _, _, h => h
  | (_, .A) :: R, _, _, hc, h => wpL_done (R := R) hc h.2
  | (_, .P) :: R, _, _, hc, h => by simp [cnt] at hc
  | (_, .R) :: R, _, _, hc, h => by simp [cnt] at hc
  | (_, .E) :: R, _, _, hc, h => by simp [cnt] at hc
theorem op1_Q {Q : Exit → Act → World → Prop} (h : op1 P ops i K a w) : wpOp P ops Q i K a w := by
  unfold op1 wpOp at *
  rcases hi : ops[i]? with _ | o
  · simp only [hi] at *; exact h
  simp only [hi] at *
  split
  · rename_i hw
    simp only [hw, if_true] at h
    rcases h with h | ⟨_, hl⟩
    case inr => exact absurd hl Q0_lets
    refine .inl ?_
    unfold Oper.wp at *
    generalize (execOp a.eval o).run P w = r at *
    cases r with
    | ok n w' =>
      cases n <;> simp only [Oper.upon] at h ⊢
      case enter g args =>
        refine Calls.mono h fun e w'' he => ?_
        cases e with
        | returned u => exact he
        | panicked c => exact False.elim he
        | outgrown => exact absurd he Q0_lets
      all_goals exact h
    | halt y w' => cases y <;> simp only [Oper.upon] at h ⊢ ; exact False.elim h
  · rename_i hw
    simp only [hw] at h
    exact h
theorem first_of : ∀ {R : List (Nat × Kd)}, cnt R ≠ 0 → ∃ B b kb C, R = B ++ (b, kb) :: C ∧ kb ≠ .A ∧ ∀ x ∈ B, x.2 = .A
  | [], h => absurd rfl h
  | (i, .A) :: R, h => by
    obtain ⟨B, b, kb, C, h1, h2, h3⟩ := first_of (R := R) h
    exact ⟨(i, .A) :: B, b, kb, C, by rw [h1]; rfl, h2, fun x hx => by
      rcases List.mem_cons.1 hx with rfl | hx
      · rfl
      · exact h3 x hx⟩
  | (i, .P) :: R, _ => ⟨[], i, .P, R, rfl, by simp, by simp⟩
  | (i, .R) :: R, _ => ⟨[], i, .R, R, rfl, by simp, by simp⟩
  | (i, .E) :: R, _ => ⟨[], i, .E, R, rfl, by simp, by simp⟩
theorem okL_front {b : Nat} {kb : Kd} (hk : kb ≠ .A) {C : List (Nat × Kd)} : ∀ {B : List (Nat × Kd)}, (∀ x ∈ B, x.2 = .A) → okL ops ex (B ++ (b, kb) :: C) = true → (waitsB ops ex b).contains b = false ∧ restB ops ex b kb C = true
  | [], _, h => ⟨(okL_cons hk h).1, (okL_cons hk h).2.1⟩
  | (i, ki) :: B, hB, h => by
    have : ki = .A := hB (i, ki) (by simp)
    subst this
    exact okL_front hk (B := B) (fun x hx => hB x (by simp [hx])) h

/-! ### Whatever order is drawn -/
def SchedOk (ops : Array Oper) : Nat → Array Bool → List Nat → Prop
  | 0, _, r => r = []
  | f + 1, listed, r => (Region.ready .any ops listed = [] ∧ r = []) ∨ ∃ i r', i ∈ Region.ready .any ops listed ∧ r = i :: r' ∧ SchedOk ops f (listed.setIfInBounds i true) r'
theorem sched_ok : ∀ (fuel t : Nat) (listed : Array Bool), SchedOk ops fuel listed (Region.linearise.go .any ops fuel t listed []) := by
  intro fuel
  induction fuel with
  | zero => intro t listed; simp [Region.linearise.go, SchedOk]
  | succ fuel ih =>
    intro t listed
    simp only [Region.linearise.go]
    change SchedOk ops (fuel + 1) listed (match (Region.ready .any ops listed)[t % (Region.ready .any ops listed).length]? with
      | some i => Region.linearise.go .any ops fuel (t / (Region.ready .any ops listed).length) (listed.setIfInBounds i true) [i]
      | none => [].reverse)
    cases hi : (Region.ready .any ops listed)[t % (Region.ready .any ops listed).length]? with
    | none =>
      have hnil : Region.ready .any ops listed = [] := by
        cases hr : Region.ready .any ops listed with
        | nil => rfl
        | cons x xs =>
          rw [hr] at hi
          have hlt : t % (x :: xs).length < (x :: xs).length := Nat.mod_lt _ (by simp)
          simp at hi
          simp at hlt
          omega
      exact .inl ⟨hnil, rfl⟩
    | some i =>
      simp only []
      rw [linearise_go_acc, List.reverse_singleton, List.singleton_append]
      exact .inr ⟨i, _, List.mem_of_getElem? hi, rfl, ih _ _⟩
/-- x ahead of y, if y comes at all. -/
def Bef (x y : Nat) (r : List Nat) : Prop := ∀ A B, r = A ++ y :: B → x ∈ A
theorem bef_total {x y : Nat} (h : x ≠ y) (r : List Nat) : Bef x y r ∨ Bef y x r := by
  by_cases hb : Bef x y r
  · exact .inl hb
  · refine .inr fun A' B' hr => ?_
    unfold Bef at hb
    obtain ⟨A, hb⟩ := Classical.not_forall.1 hb
    obtain ⟨B, hb⟩ := Classical.not_forall.1 hb
    obtain ⟨h1, h2⟩ := Classical.not_imp.1 hb
    rw [h1] at hr
    rcases List.append_eq_append_iff.1 hr with ⟨C, e1, e2⟩ | ⟨C, e1, e2⟩
    · rw [e1]
      cases C with
      | nil => simp at e2; exact absurd e2.1 (Ne.symm h)
      | cons c C => simp at e2; rw [← e2.1]; simp
    · cases C with
      | nil => simp at e2; exact absurd e2.1 h
      | cons c C =>
        simp at e2
        exact absurd (by rw [e1, ← e2.1]; simp) h2
theorem seq_sched {Q : Exit → Act → World → Prop} : ∀ (fuel : Nat) (R : List (Nat × Kd)) (listed : Array Bool) (A r : List Nat) (a : Act) (w : World), okL ops ex R = true → Closed ops ex listed →
    (∀ j, listed.getD j true = false → ∃ k, k ≠ .A ∧ (j, k) ∈ R) → (∀ j k, (j, k) ∈ R → k ≠ .A → listed.getD j true = false) → (∀ j m, m ∈ waits0 ops j → m < listed.size) → (∀ j k, (j, k) ∈ R → k ≠ .A → j < ops.size) → cnt R = fuel →
    SchedOk ops fuel listed r → (∀ x ∈ A, Done listed x) → (∀ p ∈ ex, Bef p.1 p.2 (A ++ r)) → wpL P ops (fun a w => Q .normal a w) R a w → wpOps P ops Q r a w := by
  intro fuel
  induction fuel with
  | zero =>
    intro R listed A r a w hok hcl h1 h3 h6 h7 hc hs hA hB h
    have : r = [] := hs
    subst this
    exact wpL_done hc h
  | succ fuel ih =>
    intro R listed A r a w hok hcl h1 h3 h6 h7 hc hs hA hB h
    rcases hs with ⟨hr, rfl⟩ | ⟨j, r', hj, rfl, hs⟩
    · exfalso
      obtain ⟨B, b, kb, C, rfl, hk, hB'⟩ := first_of (R := R) (by omega)
      obtain ⟨g1, g2⟩ := okL_front hk hB' hok
      have hb := h3 b kb (by simp) hk
      have hlt := h7 b kb (by simp) hk
      have : b ∈ Region.ready .any ops listed := by
        refine mem_ready.2 ⟨hb, ops[b], by simp [hlt], fun e he hbd => ?_⟩
        have hm : e.on ∈ waits0 ops b := by
          simp only [waits0, Array.getElem?_eq_getElem hlt, List.mem_map, List.mem_filter]
          exact ⟨e, ⟨by simpa using he, hbd⟩, rfl⟩
        have hm2 : e.on ∈ waitsB ops ex b := List.mem_append.2 (.inl hm)
        have hms := h6 b _ hm
        rcases hd : listed.getD e.on true with _ | _
        · exfalso
          obtain ⟨k', hk', hm'⟩ := h1 _ hd
          rcases List.mem_append.1 hm' with q | q
          · exact hk' (hB' _ q)
          · rcases List.mem_cons.1 q with e' | q
            · injection e' with e1 e2
              rw [e1] at hm2
              rw [List.contains_iff_mem.2 hm2] at g1; cases g1
            · have := (restB_ne g2 _ k' q hk').2
              rw [List.contains_iff_mem.2 hm2] at this; cases this
        · simp [hms] at hd ⊢
          exact hd
      rw [hr] at this
      cases this
    · obtain ⟨hju, oj, hoj, hall⟩ := mem_ready.1 hj
      obtain ⟨k, hk, hm⟩ := h1 j hju
      obtain ⟨B, C, rfl⟩ := List.append_of_mem hm
      have hjw : ∀ m ∈ waitsB ops ex j, Done listed m := by
        intro m hm
        rcases List.mem_append.1 hm with hm | hm
        · simp only [waits0, hoj, List.mem_map, List.mem_filter] at hm
          obtain ⟨e, ⟨he, hb⟩, rfl⟩ := hm
          exact hall e (by simpa using he) hb
        · simp only [List.mem_map, List.mem_filter] at hm
          obtain ⟨p, ⟨hp, hb⟩, rfl⟩ := hm
          have hb := Nat.eq_of_beq_eq_true hb
          exact hA _ (hB p hp A r' (by rw [hb]))
      obtain ⟨c1, c2, c3⟩ := okL_pairs hk hok fun b kb hb hne => by
        rcases hr : reach ops ex 40 j b with _ | _
        · rfl
        · exact absurd (reach_done hcl 40 j hjw hr) (not_done (h3 b kb (by simp [hb]) hne))
      have hop : op1 P ops j (wpL P ops (fun a w => Q .normal a w) (once B ++ C)) a w := by
        cases k
        case A => exact absurd rfl hk
        case E => exact pullE c1 c2 h
        case P =>
          obtain ⟨v, v1, v2⟩ := pullV (.inl rfl) c1 c2 h
          exact v1.to v2
        case R =>
          obtain ⟨v, v1, v2⟩ := pullV (.inr rfl) c1 c2 h
          exact v1.to v2
      rw [wpOps_cons]
      refine op1_Q (hop.mono fun a' w' h' => ?_)
      have hmid := okL_mid hk hok
      refine ih (once B ++ C) _ (A ++ [j]) r' a' w' (okL_out c1 hok) ?_ ?_ ?_ ?_ ?_ ?_ hs ?_ ?_ h'
      · intro i hi m hm
        by_cases hij : j = i
        · subst hij; exact getD_set_true (hjw m hm)
        · unfold Done at hi
          rw [getD_set_ne false hij] at hi
          exact getD_set_true (hcl i hi m hm)
      · intro i hi
        by_cases hij : j = i
        · subst hij
          rcases Nat.lt_or_ge j listed.size with hl | hl
          · simp [hl] at hi
          · simp [Array.getElem?_eq_none hl] at hju
        · rw [getD_set_ne true hij] at hi
          obtain ⟨k', hk', hm'⟩ := h1 i hi
          refine ⟨k', hk', List.mem_append.2 ?_⟩
          rcases List.mem_append.1 hm' with q | q
          · exact .inl (mem_once hk' q)
          · rcases List.mem_cons.1 q with e | q
            · cases e; exact absurd rfl hij
            · exact .inr q
      · intro i k' hm' hk'
        have hmem : (i, k') ∈ B ++ (j, k) :: C ∧ i ≠ j := by
          rcases List.mem_append.1 hm' with q | q
          · exact ⟨List.mem_append.2 (.inl (once_mem q)), c3 i k' (once_mem q) hk'⟩
          · exact ⟨List.mem_append.2 (.inr (List.mem_cons_of_mem _ q)), (restB_ne hmid i k' q hk').1⟩
        rw [getD_set_ne true (fun e => hmem.2 e.symm)]
        exact h3 i k' hmem.1 hk'
      · intro i m hm
        rw [Array.size_setIfInBounds]
        exact h6 i m hm
      · intro i k' hm' hk'
        refine h7 i k' ?_ hk'
        rcases List.mem_append.1 hm' with q | q
        · exact List.mem_append.2 (.inl (once_mem q))
        · exact List.mem_append.2 (.inr (List.mem_cons_of_mem _ q))
      · rw [cnt_out hk] at hc
        omega
      · intro x hx
        rcases List.mem_append.1 hx with hx | hx
        · exact getD_set_true (hA x hx)
        · simp at hx
          subst hx
          unfold Done
          rcases Nat.lt_or_ge x listed.size with hl | hl
          · simp [hl]
          · simp [Array.getElem?_eq_none hl] at hju
      · intro p hp
        rw [List.append_assoc]
        exact hB p hp
end
/-- Is it a plan of the whole region? -/
def planB (ops : Array Oper) (ex : List (Nat × Nat)) (n : Nat) (R : List (Nat × Kd)) : Bool :=
  Nat.beq ops.size n && Nat.beq (cnt R) n && okL ops ex R && ((List.range n).all fun j => R.any fun p => Nat.beq p.1 j && (match p.2 with | .A => false | _ => true)) && (R.all fun p => Nat.blt p.1 n) && ((List.range n).all fun j => (waits0 ops j).all fun m => Nat.blt m n)
/-- Plans, one for each order of those that the region's edges leave open. -/
inductive Tr | leaf (R : List (Nat × Kd)) | split (x y : Nat) (s t : Tr)
def treeB (ops : Array Oper) (n : Nat) : List (Nat × Nat) → Tr → Bool
  | ex, .leaf R => planB ops ex n R
  | ex, .split x y s t => !Nat.beq x y && treeB ops n ((x, y) :: ex) s && treeB ops n ((y, x) :: ex) t
def wpTr (P : Program) (ops : Array Oper) (Q : Act → World → Prop) (a : Act) (w : World) : Tr → Prop
  | .leaf R => wpL P ops Q R a w
  | .split _ _ s t => wpTr P ops Q a w s ∧ wpTr P ops Q a w t
theorem leaf_ok {Q : Exit → Act → World → Prop} {ex : List (Nat × Nat)} {n : Nat} {R : List (Nat × Kd)} (hp : planB ops ex n R = true) {r : List Nat} (hs : SchedOk ops ops.size (Array.replicate ops.size false) r) (hb : ∀ p ∈ ex, Bef p.1 p.2 r) {a : Act} {w : World}
    (h : wpL P ops (fun a w => Q .normal a w) R a w) : wpOps P ops Q r a w := by
  unfold planB at hp
  simp only [Bool.and_eq_true] at hp
  obtain ⟨⟨⟨⟨⟨p1, p2⟩, p3⟩, p4⟩, p5⟩, p6⟩ := hp
  have p1 := Nat.eq_of_beq_eq_true p1
  have p2 := Nat.eq_of_beq_eq_true p2
  refine seq_sched ops.size R _ [] r a w p3 (fun k hk => ?_) (fun j hj => ?_) (fun j k hjk _ => ?_) (fun j m hmw => ?_) (fun j k hjk _ => ?_) (by omega) hs (by simp) hb h
  · unfold Done at hk
    rcases Nat.lt_or_ge k ops.size with q | q
    · simp [q] at hk
    · simp [Array.getElem?_eq_none, q] at hk
  · have hlt : j < ops.size := by
      rcases Nat.lt_or_ge j ops.size with q | q
      · exact q
      · simp [Array.getElem?_eq_none, q] at hj
    have := List.all_eq_true.1 p4 j (by simp; omega)
    obtain ⟨⟨b, k⟩, hb, hq⟩ := List.any_eq_true.1 this
    simp only [Bool.and_eq_true] at hq
    have hbj := Nat.eq_of_beq_eq_true hq.1
    subst hbj
    exact ⟨k, fun e => by subst e; simp at hq, hb⟩
  · have := List.all_eq_true.1 p5 _ hjk
    simp only [Nat.blt_eq] at this
    have hlt : j < ops.size := by omega
    simp [hlt]
  · rw [Array.size_replicate]
    rcases Nat.lt_or_ge j ops.size with q | q
    · have := List.all_eq_true.1 (List.all_eq_true.1 p6 j (by simp; omega)) m hmw
      simp only [Nat.blt_eq] at this
      omega
    · simp [waits0, Array.getElem?_eq_none, q] at hmw
  · have := List.all_eq_true.1 p5 _ hjk
    simp only [Nat.blt_eq] at this
    omega
theorem tree_ok {Q : Exit → Act → World → Prop} {n : Nat} {r : List Nat} (hs : SchedOk ops ops.size (Array.replicate ops.size false) r) {a : Act} {w : World} : ∀ (t : Tr) (ex : List (Nat × Nat)), treeB ops n ex t = true → (∀ p ∈ ex, Bef p.1 p.2 r) → wpTr P ops (fun a w => Q .normal a w) a w t → wpOps P ops Q r a w
  | .leaf R, ex, hp, hb, h => leaf_ok hp hs hb h
  | .split x y s t, ex, hp, hb, ⟨h1, h2⟩ => by
    simp only [treeB, Bool.and_eq_true, Bool.not_eq_true'] at hp
    obtain ⟨⟨p1, p2⟩, p3⟩ := hp
    have hne : x ≠ y := fun e => by subst e; simp at p1
    rcases bef_total hne r with q | q
    · exact tree_ok hs s _ p2 (fun p hp => by rcases List.mem_cons.1 hp with rfl | hp <;> first | exact q | exact hb p hp) h1
    · exact tree_ok hs t _ p3 (fun p hp => by rcases List.mem_cons.1 hp with rfl | hp <;> first | exact q | exact hb p hp) h2
theorem wp_region_tree {Q : Exit → Act → World → Prop} {id : Nat} (hm : P.follows .mixedOrders = true) (n : Nat) (t : Tr) (hp : treeB ops n [] t = true) (h : wpTr P ops (fun a w => Q .normal a w) a { w with drawn := w.drawn + 1 } t) : (Code.region id ops true).wp P Q a w :=
  wp_region_draw fun k => by
    simp only [Region.schedule, hm, Bool.true_or, if_true]
    exact tree_ok (sched_ok ops.size k _) t [] hp (by simp) h
theorem wp_region_seq {Q : Exit → Act → World → Prop} {id : Nat} (hm : P.follows .mixedOrders = true) (n : Nat) (R : List (Nat × Kd)) (hp : planB ops [] n R = true) (h : wpL P ops (fun a w => Q .normal a w) R a { w with drawn := w.drawn + 1 }) : (Code.region id ops true).wp P Q a w :=
  wp_region_tree hm n (.leaf R) hp h
end
end Go.Eng
