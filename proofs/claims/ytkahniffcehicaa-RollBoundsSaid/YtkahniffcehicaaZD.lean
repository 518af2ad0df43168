/- The executor for symbolic runs: operations on terms. No condition: definitions and plain lemmas. -/
import Derived.Test.YtkahniffcehicaaYN
namespace Go.Sy
open Go Go.RowKit Go.Eng

section
variable {P : Program} {E : Env} {ρ : Ren} {G : GS} {F : List Chunk} {M : T} {nx : Nat} {w : World}

/-! ### Numbers -/
noncomputable def arS (o : Nat) (v1 v2 : AV) (K : AV → Bool) : Bool :=
  asZ v1 fun k a => asZ v2 fun k2 b => must (Nat.beq k k2) (
    Nat.rec (numS k (a + b) K) (fun o _ =>
    Nat.rec (numS k (a - b) K) (fun o _ =>
    Nat.rec (numS k (a * b) K) (fun o _ =>
    Nat.rec (must (prB (b ≠ 0)) (numS k (Int.tdiv a b) K)) (fun _ _ =>
    must (prB (b ≠ 0)) (K (.sy (.int k (Int.tmod a b))))) o) o) o) o)
theorem two_okS {v1 v2 : AV} {x y : Value} {f : Nat → Int → Int → Bool} (h1 : den E ρ v1 = some x) (h2 : den E ρ v2 = some y) (h : (asZ v1 fun k a => asZ v2 fun k2 b => must (Nat.beq k k2) (f k a b)) = true) : ∃ k a b, x = .int (kOf k) a ∧ y = .int (kOf k) b ∧ f k a b = true := by
  obtain ⟨k, a, e1, g1⟩ := asZ_ok h1 h
  obtain ⟨k2, b, e2, g2⟩ := asZ_ok h2 g1
  obtain ⟨g3, g4⟩ := must_ok g2
  have := Nat.eq_of_beq_eq_true g3
  subst this
  exact ⟨k, a, b, e1, e2, g4⟩
theorem arS_ok {o : Nat} {v1 v2 : AV} {K : AV → Bool} {x y : Value} (h1 : den E ρ v1 = some x) (h2 : den E ρ v2 = some y) (h : arS o v1 v2 K = true) (t : TypeId) (p q : Operand) :
    ∃ v z, den E ρ v = some z ∧ K v = true ∧ ∀ w, ((do eqGuard (bopA o) t p q x y; binOp (bopA o) t x y) : Sem Value).run P w = .ok z w := by
  match o with
  | 0 =>
    obtain ⟨k, a, b, rfl, rfl, g⟩ := two_okS (f := fun k a b => numS k (a + b) K) h1 h2 h
    obtain ⟨g1, g2, g3⟩ := numS_ok (E := E) (ρ := ρ) g
    exact ⟨_, _, g3, g2, fun w => by simp [bopA, eqGuard, binOp, Op.intArith, g1]⟩
  | 1 =>
    obtain ⟨k, a, b, rfl, rfl, g⟩ := two_okS (f := fun k a b => numS k (a - b) K) h1 h2 h
    obtain ⟨g1, g2, g3⟩ := numS_ok (E := E) (ρ := ρ) g
    exact ⟨_, _, g3, g2, fun w => by simp [bopA, eqGuard, binOp, Op.intArith, g1]⟩
  | 2 =>
    obtain ⟨k, a, b, rfl, rfl, g⟩ := two_okS (f := fun k a b => numS k (a * b) K) h1 h2 h
    obtain ⟨g1, g2, g3⟩ := numS_ok (E := E) (ρ := ρ) g
    exact ⟨_, _, g3, g2, fun w => by simp [bopA, eqGuard, binOp, Op.intArith, g1]⟩
  | 3 =>
    obtain ⟨k, a, b, rfl, rfl, g⟩ := two_okS (f := fun k a b => must (prB (b ≠ 0)) (numS k (Int.tdiv a b) K)) h1 h2 h
    obtain ⟨hb, g⟩ := mustP_ok g
    obtain ⟨g1, g2, g3⟩ := numS_ok (E := E) (ρ := ρ) g
    exact ⟨_, _, g3, g2, fun w => by simp [bopA, eqGuard, binOp, Op.intDiv, hb, g1]⟩
  | o + 4 =>
    obtain ⟨k, a, b, rfl, rfl, g⟩ := two_okS (f := fun k a b => must (prB (b ≠ 0)) (K (.sy (.int k (Int.tmod a b))))) h1 h2 h
    obtain ⟨hb, g⟩ := mustP_ok g
    exact ⟨_, _, rfl, g, fun w => by simp [bopA, eqGuard, binOp, Op.intDiv, hb]⟩
noncomputable def anyS (u v : AV) : Bool := Bool.or (isSy u) (isSy v)
noncomputable def arY (o : Nat) (u v : AV) (K : AV → Bool) : Bool := ifB (anyS u v) (arS o u v K) (arX o u v K)
theorem arY_ok {o : Nat} {v1 v2 : AV} {K : AV → Bool} {x y : Value} (h1 : den E ρ v1 = some x) (h2 : den E ρ v2 = some y) (h : arY o v1 v2 K = true) (t : TypeId) (p q : Operand) :
    ∃ v z, den E ρ v = some z ∧ K v = true ∧ ∀ w, ((do eqGuard (bopA o) t p q x y; binOp (bopA o) t x y) : Sem Value).run P w = .ok z w := by
  rcases ifB_ok h with ⟨_, g⟩ | ⟨_, g⟩
  · exact arS_ok h1 h2 g t p q
  · exact arX_ok h1 h2 g t p q
def cmpP (o : Nat) (a b : Int) : Prop := match o with
  | 0 => a < b | 1 => a ≤ b | 2 => b < a | 3 => b ≤ a | 4 => a = b | _ => ¬ a = b
noncomputable def cmpS (o : Nat) (v1 v2 : AV) (K : AV → Bool) : Bool := asZ v1 fun k a => asZ v2 fun k2 b => must (Nat.beq k k2) (K (.sy (.bool (cmpP o a b))))
noncomputable def cmpY (o : Nat) (u v : AV) (K : AV → Bool) : Bool := ifB (anyS u v) (cmpS o u v K) (cmpX o u v K)
theorem cmpY_ok {o : Nat} {v1 v2 : AV} {K : AV → Bool} {x y : Value} (h1 : den E ρ v1 = some x) (h2 : den E ρ v2 = some y) (h : cmpY o v1 v2 K = true) (t : TypeId) (p q : Operand) :
    ∃ v z, den E ρ v = some z ∧ K v = true ∧ ∀ w, ((do eqGuard (copA o) t p q x y; binOp (copA o) t x y) : Sem Value).run P w = .ok z w := by
  rcases ifB_ok h with ⟨_, g⟩ | ⟨_, g⟩
  · obtain ⟨k, a, b, rfl, rfl, g⟩ := two_okS (f := fun k a b => K (.sy (.bool (cmpP o a b)))) h1 h2 g
    refine ⟨_, _, rfl, g, fun w => ?_⟩
    match o with
    | 0 => simp [copA, cmpP, eqGuard, binOp, Op.intCmp, prB_dec]
    | 1 => simp [copA, cmpP, eqGuard, binOp, Op.intCmp, prB_dec]
    | 2 => simp [copA, cmpP, eqGuard, binOp, Op.intCmp, prB_dec]
    | 3 => simp [copA, cmpP, eqGuard, binOp, Op.intCmp, prB_dec]
    | 4 => simp [copA, cmpP, eqGuard, binOp, Op.intCmp, prB_dec, beq_dec]
    | o + 5 => simp [copA, cmpP, eqGuard, binOp, Op.intCmp, prB_dec, bne, beq_dec]
  · exact cmpX_ok h1 h2 g t p q

/-! ### Texts -/
theorem str_add (l m : List UInt8) : (⟨l.toArray⟩ : ByteArray) ++ ⟨m.toArray⟩ = ⟨(l ++ m).toArray⟩ := by
  apply ByteArray.ext
  simp
noncomputable def saddY (u v : AV) (K : AV → Bool) : Bool := ifB (anyS u v) (asT u fun l => asT v fun m => must (prB (l.length + m.length ≤ 9223372036854775807)) (K (.sy (.str (l ++ m))))) (saddX u v K)
theorem saddY_ok {v1 v2 : AV} {K : AV → Bool} {x y : Value} (h1 : den E ρ v1 = some x) (h2 : den E ρ v2 = some y) (h : saddY v1 v2 K = true) (t : TypeId) (p q : Operand) :
    ∃ v z, den E ρ v = some z ∧ K v = true ∧ ∀ w, ((do eqGuard .add t p q x y; binOp .add t x y) : Sem Value).run P w = .ok z w := by
  rcases ifB_ok h with ⟨_, g⟩ | ⟨_, g⟩
  · obtain ⟨l, rfl, g1⟩ := asT_ok h1 g
    obtain ⟨m, rfl, g2⟩ := asT_ok h2 g1
    obtain ⟨hb, g⟩ := mustP_ok g2
    refine ⟨_, _, rfl, g, fun w => ?_⟩
    have e1 : ByteArray.size ⟨l.toArray⟩ = l.length := by simp [ByteArray.size]
    have e2 : ByteArray.size ⟨m.toArray⟩ = m.length := by simp [ByteArray.size]
    simp [eqGuard, binOp, Op.stringOp, e1, e2, str_add]
    omega
  · exact saddX_ok h1 h2 g t p q
noncomputable def seqY (ne : Bool) (u v : AV) (K : AV → Bool) : Bool := ifB (anyS u v) (asT u fun l => asT v fun m => Bool.rec (K (.sy (.bool (l = m)))) (K (.sy (.bool (¬ l = m)))) ne) (seqX ne u v K)
theorem seqY_ok {ne : Bool} {v1 v2 : AV} {K : AV → Bool} {x y : Value} (h1 : den E ρ v1 = some x) (h2 : den E ρ v2 = some y) (h : seqY ne v1 v2 K = true) (t : TypeId) (p q : Operand) :
    ∃ v z, den E ρ v = some z ∧ K v = true ∧ ∀ w, ((do eqGuard (bif ne then .neq else .eql) t p q x y; binOp (bif ne then .neq else .eql) t x y) : Sem Value).run P w = .ok z w := by
  rcases ifB_ok h with ⟨_, g⟩ | ⟨_, g⟩
  · obtain ⟨l, rfl, g1⟩ := asT_ok h1 g
    obtain ⟨m, rfl, g2⟩ := asT_ok h2 g1
    cases ne
    · refine ⟨.sy (.bool (l = m)), _, rfl, g2, fun w => ?_⟩
      simp only [cond_false, eqGuard, binOp, Op.stringOp, toList_mk, Sem.run_bind, Sem.run_pure, Result.andThen_ok, prB_dec]
      by_cases h : l = m <;> simp [h]
    · refine ⟨.sy (.bool (¬ l = m)), _, rfl, g2, fun w => ?_⟩
      simp only [cond_true, eqGuard, binOp, Op.stringOp, toList_mk, Sem.run_bind, Sem.run_pure, Result.andThen_ok, prB_dec]
      by_cases h : l = m <;> simp [h]
  · exact seqX_ok h1 h2 g t p q
noncomputable def notY (u : AV) (K : AV → Bool) : Bool := ifB (isSy u) (asPr u fun p => K (.sy (.bool (¬ p)))) (notX u K)
theorem notY_ok {v : AV} {K : AV → Bool} {x : Value} (h1 : den E ρ v = some x) (h : notY v K = true) : ∃ u z, den E ρ u = some z ∧ K u = true ∧ ∀ w, (Op.unary .not x).run P w = .ok z w := by
  rcases ifB_ok h with ⟨_, g⟩ | ⟨_, g⟩
  · obtain ⟨p, rfl, g⟩ := asPr_ok h1 g
    refine ⟨_, _, rfl, g, fun w => ?_⟩
    have : prB (¬ p) = !prB p := by
      by_cases hp : p
      · rw [prB_true.2 hp, prB_false.2 (fun q => q hp)]; rfl
      · rw [prB_false.2 hp, prB_true.2 hp]; rfl
    simp [Op.unary, this]
  · exact notX_ok h1 g
noncomputable def negY (u : AV) (K : AV → Bool) : Bool := ifB (isSy u) (asZ u fun k z => numS k (-z) K) (negX u K)
theorem negY_ok {v : AV} {K : AV → Bool} {x : Value} (h1 : den E ρ v = some x) (h : negY v K = true) : ∃ u z, den E ρ u = some z ∧ K u = true ∧ ∀ w, (Op.unary .neg x).run P w = .ok z w := by
  rcases ifB_ok h with ⟨_, g⟩ | ⟨_, g⟩
  · obtain ⟨k, z, rfl, g⟩ := asZ_ok h1 g
    obtain ⟨g1, g2, g3⟩ := numS_ok (E := E) (ρ := ρ) g
    exact ⟨_, _, g3, g2, fun w => by simp [Op.unary, Op.intArith, g1]⟩
  · exact negX_ok h1 g
noncomputable def cnvY (k : Nat) (u : AV) (K : AV → Bool) : Bool := ifB (isSy u) (asZ u fun _ z => numS k z K) (cnvX k u K)
theorem cnvY_ok {k : Nat} {v : AV} {K : AV → Bool} {x : Value} (h1 : den E ρ v = some x) (h : cnvY k v K = true) {src dst : TypeId} (hs : (P.underlying src).isSome = true) (hd : P.underlying dst = some (.int (kOf k))) :
    ∃ u z, den E ρ u = some z ∧ K u = true ∧ ∀ w, (convert src dst x).run P w = .ok z w := by
  rcases ifB_ok h with ⟨_, g⟩ | ⟨_, g⟩
  · obtain ⟨k0, z, rfl, g⟩ := asZ_ok h1 g
    obtain ⟨g1, g2, g3⟩ := numS_ok (E := E) (ρ := ρ) g
    obtain ⟨d, hs⟩ := Option.isSome_iff_exists.1 hs
    exact ⟨_, _, g3, g2, fun w => by simp [convert, run_underlying hs, run_underlying hd, Conv.intToInt, g1]⟩
  · exact cnvX_ok h1 g hs hd
noncomputable def slenY (u : AV) (K : AV → Bool) : Bool := ifB (isSy u) (asT u fun l => K (.sy (.int 0 (l.length : Int)))) (slenX u K)
theorem slenY_ok {v : AV} {K : AV → Bool} {x : Value} {t ty : TypeId} (ht : P.underlying t = some .string) (hv : den E ρ v = some x) (hk : slenY v K = true) : ∃ u z, den E ρ u = some z ∧ K u = true ∧ ∀ (cs : Array Bool) w, (builtin .len #[t] ty cs #[x]).run P w = .ok (.value z) w := by
  rcases ifB_ok hk with ⟨_, g⟩ | ⟨_, g⟩
  · obtain ⟨l, rfl, g⟩ := asT_ok hv g
    refine ⟨_, _, rfl, g, fun cs w => ?_⟩
    have e : ByteArray.size ⟨l.toArray⟩ = l.length := by simp [ByteArray.size]
    simp [builtin, Builtin.len_, goInt, run_underlying ht, kOf, e]
  · exact slenX_ok ht hv g
noncomputable def mxY (mx : Bool) (u v : AV) (K : AV → Bool) : Bool := ifB (anyS u v) (asZ u fun k a => asZ v fun k2 b => must (Nat.beq k k2) (Bool.rec (K (.sy (.int k (min a b)))) (K (.sy (.int k (max a b)))) mx)) (mxX mx u v K)
theorem mxY_ok {mx : Bool} {v1 v2 : AV} {K : AV → Bool} {x y : Value} {ta : Array TypeId} {ty : TypeId} (h1 : den E ρ v1 = some x) (h2 : den E ρ v2 = some y) (hk : mxY mx v1 v2 K = true) :
    ∃ u z, den E ρ u = some z ∧ K u = true ∧ ∀ (cs : Array Bool) w, (builtin (bif mx then .max else .min) ta ty cs #[x, y]).run P w = .ok (.value z) w := by
  rcases ifB_ok hk with ⟨_, g⟩ | ⟨_, g⟩
  · obtain ⟨k, m, n, rfl, rfl, g⟩ := two_okS (f := fun k a b => Bool.rec (K (.sy (.int k (min a b)))) (K (.sy (.int k (max a b)))) mx) h1 h2 g
    cases mx
    · refine ⟨.sy (.int k (min m n)), _, rfl, g, fun cs w => ?_⟩
      have e : (if n < m then n else m) = min m n := by simp only [Int.min_def]; split <;> split <;> omega
      simp [builtin, Builtin.min_, Builtin.min2, e]
    · refine ⟨.sy (.int k (max m n)), _, rfl, g, fun cs w => ?_⟩
      have e : (if n > m then n else m) = max m n := by simp only [Int.max_def]; split <;> split <;> omega
      simp [builtin, Builtin.max_, Builtin.max2, e]
  · exact mxX_ok h1 h2 g
noncomputable def sixY (u v : AV) (K : AV → Bool) : Bool := ifB (anyS u v) (asT u fun l => asZ v fun _ z => must (prB (0 ≤ z ∧ z < (l.length : Int))) (K (.sy (.int 1 ((l.getD z.toNat 0).toNat : Int))))) (sixX u v K)
theorem sixY_ok {v iv : AV} {K : AV → Bool} {x y : Value} {t : TypeId} (ht : P.underlying t = some .string) (hv : den E ρ v = some x) (hi : den E ρ iv = some y) (hk : sixY v iv K = true) : ∃ u z, den E ρ u = some z ∧ K u = true ∧ ∀ w, (Instr.index t x y).run P w = .ok z w := by
  rcases ifB_ok hk with ⟨_, g⟩ | ⟨_, g⟩
  · obtain ⟨l, rfl, g1⟩ := asT_ok hv g
    obtain ⟨kd, z, rfl, g2⟩ := asZ_ok hi g1
    obtain ⟨⟨z0, zl⟩, g⟩ := mustP_ok g2
    obtain ⟨n, rfl⟩ := Int.eq_ofNat_of_zero_le z0
    have hlt : n < l.length := by omega
    refine ⟨_, _, rfl, g, fun w => ?_⟩
    have h1 : ByteArray.size ⟨l.toArray⟩ = l.length := by simp [ByteArray.size]
    simp [Instr.index, run_underlying ht, asIntOf, h1, hlt, kOf]
    rfl
  · exact sixX_ok ht hv hi g
end
end Go.Sy
