/- The executor: maps and ranges over them. No condition: definitions and plain lemmas. -/
import Derived.Test.YtkahniffcehicaaYJ
namespace Go.Sy
open Go Go.RowKit Go.Eng

section
variable {P : Program} {E : Env} {ρ : Ren} {G : GS} {F : List Chunk} {M : T} {nx : Nat} {w : World}

/-! ### Which operands of eqGuard need no look -/
theorem eqv_ok {ne : Bool} {d : Nat} {et : ET} {u v : AV} {K : AV → Bool} {x y : Value} {t : TypeId} (hd : d ≤ 10000) (hc : chkET P d et t = true) (hg : (P.eqGuardType P.depth t = false)) (hx : den E ρ u = some x) (hy : den E ρ v = some y)
    (hk : eqX d et u v (fun b => fB (Bool.rec b (Bool.not b) ne) fun r => K (.bool r)) = true) (p q : Operand) :
    ∃ u z, den E ρ u = some z ∧ K u = true ∧ ∀ w, ((do eqGuard (bif ne then .neq else .eql) t p q x y; binOp (bif ne then .neq else .eql) t x y) : Sem Value).run P w = .ok z w := by
  have hshape : (∃ us vs, x = .agg us ∧ y = .agg vs) ∨ (∃ k a k' b, x = .int k a ∧ y = .int k' b ∧ k = k' ∧ ∃ kd, P.underlying t = some (.int kd)) ∨ (∃ a b, x = .bool a ∧ y = .bool b) ∨ ((∃ a b, x = .string a ∧ y = .string b) ∧ P.underlying t = some .string) := by
    cases d with
    | zero => simp [chkET] at hc
    | succ d =>
    unfold chkET at hc
    split at hc
    · rename_i kd hu
      obtain ⟨k, a, b, rfl, rfl, g⟩ := eqZ_ok hx hy hk
      exact .inr (.inl ⟨_, _, _, _, rfl, rfl, rfl, kd, hu⟩)
    · obtain ⟨a, b, rfl, rfl, g2⟩ := eqBx_ok hx hy hk
      exact .inr (.inr (.inl ⟨_, _, rfl, rfl⟩))
    · rename_i hu
      obtain ⟨l, m, rfl, rfl, g2⟩ := eqTx_ok hx hy hk
      exact .inr (.inr (.inr ⟨⟨_, _, rfl, rfl⟩, hu⟩))
    · obtain ⟨cs, rfl, g1⟩ := asAgg_ok hk
      obtain ⟨ds, rfl, g2⟩ := asAgg_ok g1
      simp only [den] at hx hy
      split at hx
      case h_2 => cases hx
      split at hy
      case h_2 => cases hy
      cases hx; cases hy
      exact .inl ⟨_, _, rfl, rfl⟩
    · obtain ⟨cs, rfl, g1⟩ := asAgg_ok hk
      obtain ⟨ds, rfl, g2⟩ := asAgg_ok g1
      simp only [den] at hx hy
      split at hx
      case h_2 => cases hx
      split at hy
      case h_2 => cases hy
      cases hx; cases hy
      exact .inl ⟨_, _, rfl, rfl⟩
    · cases hc
  obtain ⟨b, b1, b2, b3⟩ := eqX_ok d hc hx hy hk
  rw [fB_eq] at b1
  refine ⟨_, _, rfl, b1, fun w => ?_⟩
  have hr : (Op.equal t x y).run P w = .ok b w := b2 10000 w hd
  have hr' : (Op.equalIn 10000 t x y).run P w = .ok b w := b2 10000 w hd
  rcases hshape with ⟨us, vs, rfl, rfl⟩ | ⟨k, a, k', c, rfl, rfl, rfl, kd, hu⟩ | ⟨a, c, rfl, rfl⟩ | ⟨⟨a, c, rfl, rfl⟩, hu⟩
  · cases ne
    · simp only [cond_false, Sem.run_bind, run_eqGuard_agg w .eql t p q us vs hg, Result.andThen_ok, run_eql_struct, hr']
    · simp only [cond_true, Sem.run_bind, run_eqGuard_agg w .neq t p q us vs hg, Result.andThen_ok, run_neq_struct, hr']
  · have hb : b = decide (a = c) := by
      rcases b3 _ hu with q | q
      · simp [Instr.sameNow, beq_dec] at q; exact q.symm
      · simp [Instr.sameNow] at q
    subst hb
    cases ne <;> simp [eqGuard, binOp, Op.intCmp, bne, beq_dec]
  · cases ne <;> simp [eqGuard, binOp, hr]
  · have hb : b = (a.toList == c.toList) := by
      rcases b3 _ hu with q | q
      · simp only [Instr.sameNow, Option.some.injEq] at q
        rw [← q, beq_toListBytes]
      · simp [Instr.sameNow] at q
    subst hb
    cases ne <;> simp [eqGuard, binOp, Op.stringOp]

/-! ### Finding a key -/
noncomputable def findX (d : Nat) (et : ET) (k : AV) (es : List (AV × AV × Nat)) (Kn : Bool) (Ks : Nat → AV × AV × Nat → Bool) : Bool :=
  List.rec (fun _ => Kn) (fun e _ ih i => eqX d et k e.1 fun b => ifB b (Ks i e) (ih (Nat.succ i))) es 0
/-- Keys that the model finds at once, or by asking. -/
def keyT (P : Program) (kt : TypeId) : Bool := match P.underlying kt with
  | some (.int _) | some .string | some .bool | some (.struct _) | some (.array ..) => true
  | _ => false
theorem denE_cons {k v : AV} {b : Nat} {r : List (AV × AV × Nat)} {ms : List MapEntry} (h : denE E ρ ((k, v, b) :: r) = some ms) : ∃ x y ms', den E ρ k = some x ∧ den E ρ v = some y ∧ denE E ρ r = some ms' ∧ ms = ⟨x, y, b⟩ :: ms' := by
  unfold denE at h
  split at h
  · rename_i x y es h1 h2 h3
    exact ⟨x, y, es, h1, h2, h3, (Option.some.inj h).symm⟩
  · cases h
theorem findX_ok {d : Nat} {et : ET} {k : AV} {x : Value} {kt : TypeId} (hd : d ≤ 10000) (hc : chkET P d et kt = true) (hx : den E ρ k = some x) : ∀ {es : List (AV × AV × Nat)} {ms : List MapEntry} {i : Nat} {Kn : Bool} {Ks : Nat → AV × AV × Nat → Bool},
    denE E ρ es = some ms → (List.rec (motive := fun _ => Nat → Bool) (fun _ => Kn) (fun e _ ih i => eqX d et k e.1 fun b => ifB b (Ks i e) (ih (Nat.succ i))) es i : Bool) = true →
    (Kn = true ∧ ∀ w, (Instr.findAsking kt x ms i).run P w = .ok none w ∧ ∀ dd, P.underlying kt = some dd → (Instr.findNow dd x ms i = some none ∨ (Instr.findNow dd x ms i = none))) ∨
    (∃ j e y, es[j]? = some e ∧ Ks (i + j) e = true ∧ den E ρ e.2.1 = some y ∧ ∀ w, (Instr.findAsking kt x ms i).run P w = .ok (some (i + j, y)) w ∧ ∀ dd, P.underlying kt = some dd → (Instr.findNow dd x ms i = some (some (i + j, y)) ∨ Instr.findNow dd x ms i = none))
  | [], ms, i, Kn, Ks, he, hk => by
    simp [denE] at he
    subst he
    exact .inl ⟨hk, fun w => ⟨by simp [Instr.findAsking], fun dd _ => .inl rfl⟩⟩
  | (k', v', b') :: es, ms, i, Kn, Ks, he, hk => by
    obtain ⟨x', y', ms', h1, h2, h3, rfl⟩ := denE_cons he
    have hk' : eqX d et k k' (fun b => ifB b (Ks i (k', v', b')) (List.rec (motive := fun _ => Nat → Bool) (fun _ => Kn) (fun e _ ih i => eqX d et k e.1 fun b => ifB b (Ks i e) (ih (Nat.succ i))) es (Nat.succ i))) = true := hk
    obtain ⟨b, b1, b2, hsn⟩ := eqX_ok d hc hx h1 hk'
    have hr : ∀ w, (Op.equal kt x x').run P w = .ok b w := fun w => b2 10000 w hd
    rcases ifB_ok b1 with ⟨rfl, b3⟩ | ⟨rfl, b3⟩
    · refine .inr ⟨0, _, y', rfl, b3, h2, fun w => ⟨by simp [Instr.findAsking, hr], fun dd hu => ?_⟩⟩
      rcases hsn dd hu with q | q <;> simp [Instr.findNow, q]
    · rcases findX_ok hd hc hx h3 b3 with ⟨q1, q2⟩ | ⟨j, e, y, q1, q2, q3, q4⟩
      · refine .inl ⟨q1, fun w => ⟨by simp [Instr.findAsking, hr, (q2 w).1], fun dd hu => ?_⟩⟩
        rcases hsn dd hu with q | q
        · simp only [Instr.findNow, q]
          exact (q2 w).2 dd hu
        · exact .inr (by simp [Instr.findNow, q])
      · refine .inr ⟨j + 1, e, y, by simpa using q1, by rw [← Nat.add_assoc, Nat.add_right_comm]; exact q2, q3, fun w => ⟨by simp [Instr.findAsking, hr, (q4 w).1]; omega, fun dd hu => ?_⟩⟩
        rcases hsn dd hu with q | q
        · simp only [Instr.findNow, q]
          have := (q4 w).2 dd hu
          rw [show i + 1 + j = i + (j + 1) by omega] at this
          exact this
        · exact .inr (by simp [Instr.findNow, q])
end
end Go.Sy
