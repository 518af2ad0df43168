/- The executor: operations that read or turn the world. No condition: plain lemmas. -/
import Derived.Test.YtkahniffcehicaaYR
namespace Go.Sy
open Go Go.RowKit Go.Eng

section
variable {P : Program} {E : Env} {ρ : Ren} {G : GS} {F : List Chunk} {M : T} {nx : Nat} {w : World} {N : Nat} {S : SL} {a : Act}
theorem opR_ok (h : Sim E ρ G F M nx w) (s : SR E ρ N S a) {o : Oper} {x : XO} {K : AV → Bool} (hc : chkO P x o.op = true) (hk : opR x S M K = true) : ∃ v z, den E ρ v = some z ∧ K v = true ∧ (execOp a.eval o).run P w = .ok (.value z) w := by
  obtain ⟨dst, op, ty, pos, af, g⟩ := o
  cases x <;> simp only [chkO] at hc <;> simp only [opR] at hk <;> first | (cases hk; done) | skip
  case ld agg n x =>
    split at hc <;> first | (cases hc; done) | skip
    obtain ⟨hc, c3⟩ := and2 hc
    obtain ⟨c1, c2⟩ := and2 hc
    rw [decide_eq_true_eq] at c2 c3
    obtain ⟨v, zv, h1, h2, h3⟩ := ev_ok s c1 hk
    obtain ⟨u, z, g1, g2, g3⟩ := ldY_ok (P := P) h h1 h3 c2 c3
    exact ⟨u, z, g1, g2, by simp only [execOp, h2]; exact val_run g3⟩
  case mlen x =>
    split at hc <;> first | (cases hc; done) | skip
    rename_i c
    obtain ⟨callee, args, tas⟩ := c
    split at hc <;> first | (cases hc; done) | skip
    rename_i x' t e1 e2 e3
    simp only at e1 e2 e3
    obtain rfl := toL e2
    obtain rfl := toL e3
    subst e1
    obtain ⟨c1, c2⟩ := and2 hc
    obtain ⟨v, zv, h1, h2, h3⟩ := ev_ok s c1 hk
    obtain ⟨r, z, g1, g2, g3⟩ := mlenX_ok (P := P) (ty := ty) h (isMpT_ok c2) h1 h3
    refine ⟨r, z, g1, g2, ?_⟩
    rw [run_builtin, show [x'].toArray.map a.eval = #[zv] by simp [h2]]
    exact g3 _
  case sls sz x lo hi mx =>
    split at hc <;> first | (cases hc; done) | skip
    obtain ⟨hc, c6⟩ := and2 hc
    obtain ⟨hc, c5⟩ := and2 hc
    obtain ⟨hc, c4⟩ := and2 hc
    obtain ⟨hc, c3⟩ := and2 hc
    obtain ⟨c1, c2⟩ := and2 hc
    rw [decide_eq_true_eq] at c6
    obtain ⟨v, zv, h1, h2, h3⟩ := ev_ok s c1 hk
    obtain ⟨l, l1, l2⟩ := evO_ok s c2 h3
    obtain ⟨hh, l3, l4⟩ := evO_ok s c3 l2
    obtain ⟨m, l5, l6⟩ := evO_ok s c4 l4
    obtain ⟨u, z, g1, g2, g3⟩ := slsY_ok (P := P) h (isSlT_ok c5) c6 h1 l1 l3 l5 l6
    exact ⟨u, z, g1, g2, by simp only [execOp, h2]; exact val_run g3⟩
  case lk d et zv comma m k =>
    split at hc <;> first | (cases hc; done) | skip
    obtain ⟨hc, c7⟩ := and2 hc
    obtain ⟨hc, c6⟩ := and2 hc
    obtain ⟨hc, c5⟩ := and2 hc
    obtain ⟨hc, c4⟩ := and2 hc
    obtain ⟨hc, c3⟩ := and2 hc
    obtain ⟨c1, c2⟩ := and2 hc
    rw [decide_eq_true_eq] at c3
    subst c3
    obtain ⟨v, z1, h1, h2, h3⟩ := ev_ok s c1 hk
    obtain ⟨u, z2, h4, h5, h6⟩ := ev_ok s c2 h3
    obtain ⟨zz, z3, z4⟩ := zvIs_ok (E := E) (ρ := ρ) c7
    obtain ⟨r, z, g1, g2, g3⟩ := lkX_ok (P := P) h (Nat.le_of_ble_eq_true c4) (isMpT_ok c5) c6 z3 z4 h1 h4 h6
    exact ⟨r, z, g1, g2, by simp only [execOp, h2, h5]; exact val_run g3⟩
  case ent it =>
    split at hc <;> first | (cases hc; done) | skip
    obtain ⟨v, zv, h1, h2, h3⟩ := ev_ok s hc hk
    obtain ⟨u, z, g1, g2, g3⟩ := entX_ok (P := P) h h1 h3
    exact ⟨u, z, g1, g2, by simp only [execOp, h2]; exact val_run g3⟩

/-- What an operation leaves: a value, or nothing. -/
def Left (P : Program) (E : Env) (ρ' : Ren) (o : Oper) (a : Act) (w w' : World) (v : AV) : Prop :=
  (∃ z, den E ρ' v = some z ∧ (execOp a.eval o).run P w = .ok (.value z) w') ∨ (v = .bad ∧ (execOp a.eval o).run P w = .ok .skip w')
theorem opE_ok (hE : EOk E) (h : Sim E ρ G F M nx w) (s : SR E ρ N S a) {o : Oper} {x : XO} {K : AV → T → Nat → Bool} (hc : chkO P x o.op = true) (hk : opE x S M nx K = true) :
    ∃ v M' nx' ρ' w', ρ.Le ρ' ∧ Sim E ρ' G F M' nx' w' ∧ K v M' nx' = true ∧ Left P E ρ' o a w w' v := by
  obtain ⟨dst, op, ty, pos, af, g⟩ := o
  cases x <;> simp only [chkO] at hc <;> simp only [opE] at hk <;> first | (cases hk; done) | skip
  case st n x y =>
    split at hc <;> first | (cases hc; done) | skip
    obtain ⟨hc, c3⟩ := and2 hc
    obtain ⟨c1, c2⟩ := and2 hc
    rw [decide_eq_true_eq] at c3
    obtain ⟨v, z1, h1, h2, h3⟩ := ev_ok s c1 hk
    obtain ⟨u, z2, h4, h5, h6⟩ := ev_ok s c2 h3
    obtain ⟨M', w', g1, g2, g3⟩ := stY_ok (P := P) hE h h1 h4 h6 c3
    exact ⟨.bad, M', nx, ρ, w', Ren.Le.refl _, g1, g2, .inr ⟨rfl, by simp only [execOp, h2, h5]; exact unit_run g3⟩⟩
  case al T z =>
    split at hc <;> first | (cases hc; done) | skip
    obtain ⟨c1, c2⟩ := and2 hc
    have c1 := Nat.eq_of_beq_eq_true c1
    subst c1
    obtain ⟨zs, z1, z2⟩ := zeroIs_ok (E := E) (ρ := ρ) c2
    obtain ⟨h1, h2⟩ := must_ok hk
    rw [Nat.blt_eq, lenL_eq] at h1
    obtain ⟨v, M', nx', ρ', w', z, g1, g2, g3, g4, g5⟩ := alloc_ok (P := P) h z1 z2 (fun e => by rw [e] at h1; simp at h1) h2
    exact ⟨v, M', nx', ρ', w', g1, g2, g3, .inl ⟨z, g4, by simp only [execOp]; exact val_run g5⟩⟩
  case box T x =>
    split at hc <;> first | (cases hc; done) | skip
    obtain ⟨c1, c2⟩ := and2 hc
    have c2 := Nat.eq_of_beq_eq_true c2
    subst c2
    obtain ⟨u, zu, h1, h2, h3⟩ := ev_ok s c1 hk
    obtain ⟨v, M', nx', ρ', w', z, g1, g2, g3, g4, g5⟩ := boxX_ok (P := P) hE h h1 h3
    exact ⟨v, M', nx', ρ', w', g1, g2, g3, .inl ⟨z, g4, by simp only [execOp, h2]; exact val_run g5⟩⟩
  case bsl Ty sz len z ps xs =>
    split at hc <;> first | (cases hc; done) | skip
    rename_i t n qs
    obtain ⟨hc, c5⟩ := and2 hc
    obtain ⟨hc, c4⟩ := and2 hc
    obtain ⟨hc, c3⟩ := and2 hc
    obtain ⟨c1, c2⟩ := and2 hc
    have c1 := Nat.eq_of_beq_eq_true c1
    subst c1
    obtain ⟨vs, h1, h2, h3⟩ := evL_ok s c5 hk
    obtain ⟨h4, h5⟩ := must_ok h2
    obtain ⟨zs, z1, z2⟩ := zerosIs_ok (E := E) (ρ := ρ) c3
    obtain ⟨v, M', nx', ρ', w', x, g1, g2, g3, g4, g5⟩ := bslX_ok (P := P) hE h (isSlT_ok c2) z1 z2 c4 h1 (by simpa using h3) (szsB_ok hE h4 h1) h5
    exact ⟨v, M', nx', ρ', w', g1, g2, g3, .inl ⟨x, g4, by simp only [execOp, parts_eq]; exact val_run g5⟩⟩
  case mks Ty sz bytes z l c =>
    split at hc <;> first | (cases hc; done) | skip
    obtain ⟨hc, c5⟩ := and2 hc
    obtain ⟨hc, c4⟩ := and2 hc
    obtain ⟨hc, c3⟩ := and2 hc
    obtain ⟨c1, c2⟩ := and2 hc
    obtain ⟨u, z1, h1, h2, h3⟩ := ev_ok s c1 hk
    obtain ⟨v, z2, h4, h5, h6⟩ := ev_ok s c2 h3
    obtain ⟨zs, y1, y2⟩ := zeroIs_ok (E := E) (ρ := ρ) c5
    obtain ⟨v, M', nx', ρ', w', x, g1, g2, g3, g4, g5⟩ := mksY_ok (P := P) h (isSlT_ok c3) c4 y1 y2 h1 h4 h6
    exact ⟨v, M', nx', ρ', w', g1, g2, g3, .inl ⟨x, g4, by simp only [execOp, h2, h5]; exact val_run g5⟩⟩
  case mkm =>
    split at hc <;> first | (cases hc; done) | skip
    obtain ⟨v, M', nx', ρ', w', x, g1, g2, g3, g4, g5⟩ := mkmX_ok (P := P) h hk (isMpT_ok hc) (hint := none) (fun v hv => by cases hv)
    exact ⟨v, M', nx', ρ', w', g1, g2, g3, .inl ⟨x, g4, by simp only [execOp, Option.map_none]; exact val_run g5⟩⟩
  case mu d et m k v =>
    split at hc <;> first | (cases hc; done) | skip
    all_goals
      obtain ⟨hc, c6⟩ := and2 hc
      obtain ⟨hc, c5⟩ := and2 hc
      obtain ⟨hc, c4⟩ := and2 hc
      obtain ⟨hc, c3⟩ := and2 hc
      obtain ⟨c1, c2⟩ := and2 hc
      obtain ⟨u, z1, h1, h2, h3⟩ := ev_ok s c1 hk
      obtain ⟨v, z2, h4, h5, h6⟩ := ev_ok s c2 h3
      obtain ⟨q, z3, h7, h8, h9⟩ := ev_ok s c3 h6
      obtain ⟨M', w', g1, g2, g3⟩ := muX_ok (P := P) h (Nat.le_of_ble_eq_true c4) (isMpT_ok c5) c6 h1 h4 h7 h9
      exact ⟨.bad, M', nx, ρ, w', Ren.Le.refl _, g1, g2, .inr ⟨rfl, by simp only [execOp, h2, h5, h8]; exact unit_run g3⟩⟩
  case rng m =>
    split at hc <;> first | (cases hc; done) | skip
    obtain ⟨c1, c2⟩ := and2 hc
    obtain ⟨u, z1, h1, h2, h3⟩ := ev_ok s c1 hk
    obtain ⟨v, M', nx', ρ', w', x, g1, g2, g3, g4, g5⟩ := rngX_ok (P := P) h (isMpT_ok c2) h1 h3
    exact ⟨v, M', nx', ρ', w', g1, g2, g3, .inl ⟨x, g4, by simp only [execOp, h2]; exact val_run g5⟩⟩
  case nxt it =>
    split at hc <;> first | (cases hc; done) | skip
    rename_i x' b
    obtain ⟨c1, c2⟩ := and2 hc
    have c2 : b = false := by simpa using c2
    subst c2
    obtain ⟨u, z1, h1, h2, h3⟩ := ev_ok s c1 hk
    obtain ⟨v, M', w', z, g1, g2, g3, g4⟩ := nxtX_ok (P := P) (ty := ty) h h1 h3
    exact ⟨v, M', nx, ρ, w', Ren.Le.refl _, g1, g2, .inl ⟨z, g3, by simp only [execOp, h2]; exact val_run g4⟩⟩
  case app Ty sz bytes x y =>
    split at hc <;> first | (cases hc; done) | skip
    rename_i c
    obtain ⟨callee, args, tas⟩ := c
    split at hc <;> first | (cases hc; done) | skip
    rename_i x' y' t u e1 e2 e3
    simp only at e1 e2 e3
    obtain rfl := toL e2
    obtain rfl := toL e3
    subst e1
    obtain ⟨hc, c5⟩ := and2 hc
    obtain ⟨hc, c4⟩ := and2 hc
    obtain ⟨hc, c3⟩ := and2 hc
    obtain ⟨c1, c2⟩ := and2 hc
    have c3 := Nat.eq_of_beq_eq_true c3
    subst c3
    obtain ⟨u, z1, h1, h2, h3⟩ := ev_ok s c1 hk
    obtain ⟨v, z2, h4, h5, h6⟩ := ev_ok s c2 h3
    obtain ⟨r, M', nx', ρ', w', x, g1, g2, g3, g4, g5⟩ := appY_ok (P := P) (ty := ty) hE h (isSlT_ok c4) c5 h1 h4 h6
    refine ⟨r, M', nx', ρ', w', g1, g2, g3, .inl ⟨x, g4, ?_⟩⟩
    rw [run_builtin, show [x', y'].toArray.map a.eval = #[z1, z2] by simp [h2, h5]]
    simp only [builtin]
    exact val_run g5
  case del d et m k =>
    split at hc <;> first | (cases hc; done) | skip
    rename_i c
    obtain ⟨callee, args, tas⟩ := c
    split at hc <;> first | (cases hc; done) | skip
    rename_i x' y' t t2 e1 e2 e3
    simp only at e1 e2 e3
    obtain rfl := toL e2
    obtain rfl := toL e3
    subst e1
    obtain ⟨hc, c5⟩ := and2 hc
    obtain ⟨hc, c4⟩ := and2 hc
    obtain ⟨hc, c3⟩ := and2 hc
    obtain ⟨c1, c2⟩ := and2 hc
    obtain ⟨u, z1, h1, h2, h3⟩ := ev_ok s c1 hk
    obtain ⟨v, z2, h4, h5, h6⟩ := ev_ok s c2 h3
    obtain ⟨M', w', g1, g2, g3⟩ := delX_ok (P := P) (t2 := t2) (ty := ty) h (Nat.le_of_ble_eq_true c3) (isMpT_ok c4) c5 h1 h4 h6
    refine ⟨.tup [], M', nx, ρ, w', Ren.Le.refl _, g1, g2, .inl ⟨.tuple #[], by simp [den, denL], ?_⟩⟩
    rw [run_builtin, show [x', y'].toArray.map a.eval = #[z1, z2] by simp [h2, h5]]
    simp only [builtin]
    exact val_run g3
end
end Go.Sy
