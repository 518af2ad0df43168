/- The executor: what one operation's data say of the program's operation. No condition: plain lemmas. -/
import Derived.Test.YtkahniffcehicaaYQ
namespace Go.Sy
open Go Go.RowKit Go.Eng

section
variable {P : Program} {E : Env} {ρ : Ren} {G : GS} {F : List Chunk} {M : T} {nx : Nat} {w : World} {N : Nat} {S : SL} {a : Act}
theorem val_run {m : Sem Value} {z : Value} {w w' : World} (h : m.run P w = .ok z w') : ((do pure (Next.value (← m))) : Sem Next).run P w = .ok (.value z) w' := by
  simp [Sem.run_bind, h]
theorem unit_run {m : Sem Unit} {w w' : World} (h : m.run P w = .ok () w') : ((do m; pure Next.skip) : Sem Next).run P w = .ok .skip w' := by
  simp [Sem.run_bind, h]
theorem parts_eq (qs : Array (Nat × Operand)) (f : Operand → Value) : (qs.map fun (i, x) => (i, f x)) = (((qs.toList.map (·.1)).zip ((qs.toList.map (·.2)).map f))).toArray := by
  apply Array.ext'
  simp only [Array.toList_map, List.map_map]
  generalize qs.toList = l
  induction l with
  | nil => rfl
  | cons p l ih => simp [ih]
theorem toL {α : Type _} {x : Array α} {l : List α} (h : x.toList = l) : x = l.toArray := by
  subst h; simp
theorem and2 {a b : Bool} (h : (a && b) = true) : a = true ∧ b = true := by simpa using h
theorem bin_ok {f k : Nat} {u v : AV} {K : AV → Bool} {x y : Value} (h1 : den E ρ u = some x) (h2 : den E ρ v = some y)
    (hk : (Nat.rec (arY k u v K) (fun f _ => Nat.rec (bitX k u v K) (fun f _ => Nat.rec (shX (Nat.beq k 1) u v K) (fun f _ => Nat.rec (cmpY k u v K) (fun f _ => Nat.rec (saddY u v K) (fun _ _ => seqY (Nat.beq k 1) u v K) f) f) f) f) f : Bool) = true) (t : TypeId) (p q : Operand) :
    ∃ v z, den E ρ v = some z ∧ K v = true ∧ ∀ w, ((do eqGuard (binF f k) t p q x y; binOp (binF f k) t x y) : Sem Value).run P w = .ok z w := by
  match f with
  | 0 => exact arY_ok h1 h2 hk t p q
  | 1 => exact bitX_ok h1 h2 hk t p q
  | 2 => exact shX_ok h1 h2 hk t p q
  | 3 => exact cmpY_ok h1 h2 hk t p q
  | 4 => exact saddY_ok h1 h2 hk t p q
  | n + 5 => exact seqY_ok h1 h2 hk t p q

set_option maxHeartbeats 1000000 in
theorem opP_ok (hE : EOk E) (s : SR E ρ N S a) {o : Oper} {x : XO} {K : AV → Bool} (hc : chkO P x o.op = true) (hk : opP x S K = true) : ∃ v z, den E ρ v = some z ∧ K v = true ∧ ∀ w, (execOp a.eval o).run P w = .ok (.value z) w := by
  obtain ⟨dst, op, ty, pos, af, g⟩ := o
  cases x <;> simp only [chkO] at hc <;> simp only [opP] at hk <;> first | (cases hk; done) | skip
  case mv x =>
    split at hc <;> first | (cases hc; done) | skip
    all_goals
      obtain ⟨v, z, h1, h2, h3⟩ := ev_ok s hc hk
      exact ⟨v, z, h1, h3, fun w => by simp only [execOp, h2]; rfl⟩
  case pick c x y =>
    split at hc <;> first | (cases hc; done) | skip
    obtain ⟨hc, c3⟩ := and2 hc
    obtain ⟨c1, c2⟩ := and2 hc
    obtain ⟨v, z, h1, h2, h3⟩ := ev_ok s c1 hk
    obtain ⟨b, rfl, h4⟩ := asBs_ok h1 h3
    rcases ifB_ok h4 with ⟨rfl, h5⟩ | ⟨rfl, h5⟩
    · obtain ⟨u, z, g1, g2, g3⟩ := ev_ok s c2 h5
      exact ⟨u, z, g1, g3, fun w => by simp [execOp, h2, g2, asBool]⟩
    · obtain ⟨u, z, g1, g2, g3⟩ := ev_ok s c3 h5
      exact ⟨u, z, g1, g3, fun w => by simp [execOp, h2, g2, asBool]⟩
  case bin f k x y =>
    split at hc <;> first | (cases hc; done) | skip
    rename_i b t x' y' t2
    obtain ⟨hc, c3⟩ := and2 hc
    obtain ⟨c1, c2⟩ := and2 hc
    rw [decide_eq_true_eq] at c1
    subst c1
    obtain ⟨u, zu, h1, h2, h3⟩ := ev_ok s c2 hk
    obtain ⟨v, zv, h4, h5, h6⟩ := ev_ok s c3 h3
    obtain ⟨r, z, g1, g2, g3⟩ := bin_ok (P := P) h1 h4 h6 t x' y'
    exact ⟨r, z, g1, g2, fun w => by simp only [execOp, h2, h5]; exact val_run (g3 w)⟩
  case eqs ne d et x y =>
    split at hc <;> first | (cases hc; done) | skip
    rename_i b t x' y' t2
    obtain ⟨hc, c6⟩ := and2 hc
    obtain ⟨hc, c5⟩ := and2 hc
    obtain ⟨hc, c4⟩ := and2 hc
    obtain ⟨hc, c3⟩ := and2 hc
    obtain ⟨c1, c2⟩ := and2 hc
    rw [decide_eq_true_eq] at c1
    subst c1
    obtain ⟨u, zu, h1, h2, h3⟩ := ev_ok s c5 hk
    obtain ⟨v, zv, h4, h5, h6⟩ := ev_ok s c6 h3
    obtain ⟨r, z, g1, g2, g3⟩ := eqv_ok (P := P) (Nat.le_of_ble_eq_true c2) c3 (by simpa using c4) h1 h4 h6 x' y'
    exact ⟨r, z, g1, g2, fun w => by simp only [execOp, h2, h5]; exact val_run (g3 w)⟩
  case isn ne kd x =>
    split at hc <;> first | (cases hc; done) | skip
    rename_i b t x' c t2
    obtain ⟨hc, c3⟩ := and2 hc
    obtain ⟨c1, c2⟩ := and2 hc
    rw [decide_eq_true_eq] at c1
    subst c1
    split at c2
    case h_2 => cases c2
    rename_i z hz
    obtain ⟨u, zu, h1, h2, h3⟩ := ev_ok s c3 hk
    have hcz : c = z := by
      have key : ∀ v : AV, (isC v c && isC v z) = true → c = z := fun v h => by
        obtain ⟨p, q⟩ := and2 h
        have p' := isC_ok (E := ⟨fun _ => undef, fun _ => none⟩) (ρ := fun _ => none) p
        have q' := isC_ok (E := ⟨fun _ => undef, fun _ => none⟩) (ρ := fun _ => none) q
        rw [p'] at q'
        exact Option.some.inj q'
      simp only [Bool.or_eq_true] at c2
      rcases c2 with (((h | h) | h) | h) | h <;> exact key _ h
    subst hcz
    obtain ⟨r, y, g1, g2, g3⟩ := isnY_ok (P := P) hz h1 h3 x' c
    exact ⟨r, y, g1, g2, fun w => by simp only [execOp, h2]; exact val_run (g3 w)⟩
  case un f x =>
    split at hc <;> first | (cases hc; done) | skip
    rename_i u t x'
    obtain ⟨c1, c2⟩ := and2 hc
    rw [decide_eq_true_eq] at c2
    obtain ⟨v, zv, h1, h2, h3⟩ := ev_ok s c1 hk
    match f, c2, h3 with
    | 0, c2, h3 =>
      obtain ⟨r, z, g1, g2, g3⟩ := notY_ok (P := P) h1 h3
      exact ⟨r, z, g1, g2, fun w => by simp only [execOp, h2, c2]; exact val_run (g3 w)⟩
    | 1, c2, h3 =>
      obtain ⟨r, z, g1, g2, g3⟩ := negY_ok (P := P) h1 h3
      exact ⟨r, z, g1, g2, fun w => by simp only [execOp, h2, c2]; exact val_run (g3 w)⟩
    | n + 2, c2, h3 =>
      obtain ⟨r, z, g1, g2, g3⟩ := comX_ok (P := P) h1 h3
      exact ⟨r, z, g1, g2, fun w => by simp only [execOp, h2, c2]; exact val_run (g3 w)⟩
  case cnv k x =>
    split at hc <;> first | (cases hc; done) | skip
    obtain ⟨hc, c3⟩ := and2 hc
    obtain ⟨c1, c2⟩ := and2 hc
    obtain ⟨v, zv, h1, h2, h3⟩ := ev_ok s c1 hk
    obtain ⟨r, z, g1, g2, g3⟩ := cnvY_ok (P := P) h1 h3 c2 (isInT_ok c3)
    exact ⟨r, z, g1, g2, fun w => by simp only [execOp, h2]; exact val_run (g3 w)⟩
  case fa off x =>
    split at hc <;> first | (cases hc; done) | skip
    obtain ⟨c1, c2⟩ := and2 hc
    rw [decide_eq_true_eq] at c2
    obtain ⟨v, zv, h1, h2, h3⟩ := ev_ok s c1 hk
    obtain ⟨r, z, g1, g2, g3⟩ := faY_ok (P := P) c2 h1 h3
    exact ⟨r, z, g1, g2, fun w => by simp only [execOp, h2]; exact val_run (g3 w)⟩
  case nck x =>
    split at hc <;> first | (cases hc; done) | skip
    obtain ⟨v, zv, h1, h2, h3⟩ := ev_ok s hc hk
    obtain ⟨g1, g2⟩ := nckY_ok (P := P) h1 h3 (a := a) h2 (dst := dst) (ty := ty) (pos := pos) (af := af) (g := g)
    exact ⟨v, zv, h1, g1, g2⟩
  case ixa n sz x i =>
    split at hc <;> first | (cases hc; done) | skip
    obtain ⟨hc, c4⟩ := and2 hc
    obtain ⟨hc, c3⟩ := and2 hc
    obtain ⟨c1, c2⟩ := and2 hc
    rw [decide_eq_true_eq] at c4
    obtain ⟨v, zv, h1, h2, h3⟩ := ev_ok s c1 hk
    obtain ⟨u, zu, h4, h5, h6⟩ := ev_ok s c2 h3
    obtain ⟨r, z, g1, g2, g3⟩ := ixaY_ok (P := P) (isArT_ok c3) c4 h1 h4 h6
    exact ⟨r, z, g1, g2, fun w => by simp only [execOp, h2, h5]; exact val_run (g3 w)⟩
  case ixs sz x i =>
    split at hc <;> first | (cases hc; done) | skip
    obtain ⟨hc, c4⟩ := and2 hc
    obtain ⟨hc, c3⟩ := and2 hc
    obtain ⟨c1, c2⟩ := and2 hc
    rw [decide_eq_true_eq] at c4
    obtain ⟨v, zv, h1, h2, h3⟩ := ev_ok s c1 hk
    obtain ⟨u, zu, h4, h5, h6⟩ := ev_ok s c2 h3
    obtain ⟨r, z, g1, g2, g3⟩ := ixsY_ok (P := P) (isSlT_ok c3) c4 h1 h4 h6
    exact ⟨r, z, g1, g2, fun w => by simp only [execOp, h2, h5]; exact val_run (g3 w)⟩
  case fld agg off n x =>
    split at hc <;> first | (cases hc; done) | skip
    obtain ⟨c1, c2⟩ := and2 hc
    split at c2
    case h_2 => cases c2
    rename_i fs hfs
    split at c2
    case h_2 => cases c2
    rename_i f hf
    obtain ⟨c2, c4⟩ := and2 c2
    obtain ⟨c2, c3⟩ := and2 c2
    rw [decide_eq_true_eq] at c3 c4
    obtain ⟨v, zv, h1, h2, h3⟩ := ev_ok s c1 hk
    obtain ⟨r, z, g1, g2, g3⟩ := fldX_ok (P := P) hfs hf (Nat.eq_of_beq_eq_true c2) c3 c4 h1 h3
    exact ⟨r, z, g1, g2, fun w => by simp only [execOp, h2]; exact val_run (g3 w)⟩
  case len f x =>
    split at hc <;> first | (cases hc; done) | skip
    rename_i c
    obtain ⟨callee, args, tas⟩ := c
    split at hc <;> first | (cases hc; done) | skip
    rename_i x' t e1 e2 e3
    simp only at e1 e2 e3
    obtain rfl := toL e2
    obtain rfl := toL e3
    subst e1
    obtain ⟨c1, c2⟩ := and2 hc
    obtain ⟨v, zv, h1, h2, h3⟩ := ev_ok s c1 hk
    cases f with
    | zero =>
      obtain ⟨r, z, g1, g2, g3⟩ := slenY_ok (P := P) (ty := ty) (isStT_ok c2) h1 h3
      refine ⟨r, z, g1, g2, fun w => ?_⟩
      rw [run_builtin, show [x'].toArray.map a.eval = #[zv] by simp [h2]]
      exact g3 _ w
    | succ f =>
      obtain ⟨r, z, g1, g2, g3⟩ := lenY_ok (P := P) (ty := ty) (isSlT_ok c2) h1 h3
      refine ⟨r, z, g1, g2, fun w => ?_⟩
      rw [run_builtin, show [x'].toArray.map a.eval = #[zv] by simp [h2]]
      exact g3 _ w
  case mx b x y =>
    split at hc <;> first | (cases hc; done) | skip
    rename_i c
    obtain ⟨callee, args, tas⟩ := c
    split at hc <;> first | (cases hc; done) | skip
    rename_i f x' y' e1 e2
    simp only at e1 e2
    obtain rfl := toL e2
    subst e1
    obtain ⟨hc, c3⟩ := and2 hc
    obtain ⟨c1, c2⟩ := and2 hc
    rw [decide_eq_true_eq] at c3
    subst c3
    obtain ⟨v, zv, h1, h2, h3⟩ := ev_ok s c1 hk
    obtain ⟨u, zu, h4, h5, h6⟩ := ev_ok s c2 h3
    obtain ⟨r, z, g1, g2, g3⟩ := mxY_ok (P := P) (ta := tas) (ty := ty) h1 h4 h6
    refine ⟨r, z, g1, g2, fun w => ?_⟩
    rw [run_builtin, show [x', y'].toArray.map a.eval = #[zv, zu] by simp [h2, h5]]
    exact g3 _ w
  case ext i x =>
    split at hc <;> first | (cases hc; done) | skip
    obtain ⟨c1, c2⟩ := and2 hc
    have c2 := Nat.eq_of_beq_eq_true c2
    subst c2
    obtain ⟨v, zv, h1, h2, h3⟩ := ev_ok s c1 hk
    obtain ⟨r, z, g1, g2, g3⟩ := extX_ok (P := P) h1 h3
    exact ⟨r, z, g1, g2, fun w => by simp only [execOp, h2]; exact val_run (g3 w)⟩
  case six x i =>
    split at hc <;> first | (cases hc; done) | skip
    obtain ⟨hc, c3⟩ := and2 hc
    obtain ⟨c1, c2⟩ := and2 hc
    obtain ⟨v, zv, h1, h2, h3⟩ := ev_ok s c1 hk
    obtain ⟨u, zu, h4, h5, h6⟩ := ev_ok s c2 h3
    obtain ⟨r, z, g1, g2, g3⟩ := sixY_ok (P := P) (isStT_ok c3) h1 h4 h6
    exact ⟨r, z, g1, g2, fun w => by simp only [execOp, h2, h5]; exact val_run (g3 w)⟩
  case bld z ps xs =>
    split at hc <;> first | (cases hc; done) | skip
    rename_i t qs
    obtain ⟨hc, c4⟩ := and2 hc
    obtain ⟨hc, c3⟩ := and2 hc
    obtain ⟨c1, c2⟩ := and2 hc
    obtain ⟨vs, h1, h2, h3⟩ := evL_ok s c4 hk
    obtain ⟨h4, h5⟩ := must_ok h2
    obtain ⟨zs, z1, z2⟩ := zeroIs_ok (E := E) (ρ := ρ) c2
    obtain ⟨u, x, g1, g2, g3⟩ := bldX_ok hE z1 z2 c1 c3 h1 (by simpa using h3) (szsB_ok hE h4 h1) h5
    exact ⟨u, x, g1, g2, fun w => by simp only [execOp, parts_eq]; exact val_run (g3 w)⟩
end
end Go.Sy
