/- The executor: equality, maps, ranges over maps. No condition: definitions and plain lemmas. -/
import Derived.Test.YtkahniffcehicaaYI
namespace Go.Sy
open Go Go.RowKit Go.Eng

/-! ### Equality by a plan -/
inductive ET
  | int | bool | str
  | st (fs : List (Nat × Nat × Bool × ET))
  | ar (offs : List Nat) (n : Nat) (agg : Bool) (e : ET)
noncomputable def partA (agg : Bool) (off n : Nat) (cs : List AV) (K : AV → Bool) : Bool := ifB agg (tak (drp cs off) n fun l => K (.agg l)) (atO (nth cs off) K)
noncomputable def eqFs (eq : ET → AV → AV → (Bool → Bool) → Bool) (cs ds : List AV) (fs : List (Nat × Nat × Bool × ET)) (K : Bool → Bool) : Bool :=
  List.rec (K true) (fun f _ ih => partA f.2.2.1 f.1 f.2.1 cs fun u => partA f.2.2.1 f.1 f.2.1 ds fun v => eq f.2.2.2 u v fun b => ifB b ih (K false)) fs
noncomputable def eqOs (eq : ET → AV → AV → (Bool → Bool) → Bool) (cs ds : List AV) (n : Nat) (agg : Bool) (e : ET) (offs : List Nat) (K : Bool → Bool) : Bool :=
  List.rec (K true) (fun o _ ih => partA agg o n cs fun u => partA agg o n ds fun v => eq e u v fun b => ifB b ih (K false)) offs
noncomputable def eqZ (u v : AV) (K : Bool → Bool) : Bool := ifB (Bool.or (isSy u) (isSy v)) (asZ u fun k a => asZ v fun k2 b => must (Nat.beq k k2) (ifB (prB (a = b)) (K true) (K false))) (asI u fun k a => asI v fun k2 b => must (Nat.beq k k2) (fB (eqI a b) K))
noncomputable def eqBx (u v : AV) (K : Bool → Bool) : Bool := asBs u fun a => asBs v fun b => fB (Bool.rec (Bool.not b) b a) K
noncomputable def eqTx (u v : AV) (K : Bool → Bool) : Bool := ifB (Bool.or (isSy u) (isSy v)) (asT u fun l => asT v fun m => ifB (prB (l = m)) (K true) (K false)) (asStr u fun l => asStr v fun m => must (small l) (must (small m) (fB (eqL l m) K)))
theorem eqZ_ok {E : Env} {ρ : Ren} {u v : AV} {x y : Value} {K : Bool → Bool} (hx : den E ρ u = some x) (hy : den E ρ v = some y) (h : eqZ u v K = true) : ∃ k a b, x = .int (kOf k) a ∧ y = .int (kOf k) b ∧ K (decide (a = b)) = true := by
  rcases ifB_ok h with ⟨_, g⟩ | ⟨_, g⟩
  · obtain ⟨k, a, rfl, g1⟩ := asZ_ok hx g
    obtain ⟨k2, b, rfl, g2⟩ := asZ_ok hy g1
    obtain ⟨g3, g4⟩ := must_ok g2
    have g3 := Nat.eq_of_beq_eq_true g3
    subst g3
    refine ⟨k, a, b, rfl, rfl, ?_⟩
    rcases ifP_ok g4 with ⟨q, g⟩ | ⟨q, g⟩
    · rw [decide_eq_true q]; exact g
    · rw [decide_eq_false q]; exact g
  · obtain ⟨k, a, b, rfl, rfl, g5⟩ := two_ok (f := fun _ a b => fB (eqI a b) K) g
    rw [fB_eq, eqI_eq] at g5
    cases hx; cases hy
    exact ⟨k, a, b, rfl, rfl, g5⟩
theorem eqBx_ok {E : Env} {ρ : Ren} {u v : AV} {x y : Value} {K : Bool → Bool} (hx : den E ρ u = some x) (hy : den E ρ v = some y) (h : eqBx u v K = true) : ∃ a b : Bool, x = .bool a ∧ y = .bool b ∧ K (Bool.rec (Bool.not b) b a) = true := by
  obtain ⟨a, rfl, g1⟩ := asBs_ok hx h
  obtain ⟨b, rfl, g2⟩ := asBs_ok hy g1
  rw [fB_eq] at g2
  exact ⟨a, b, rfl, rfl, g2⟩
theorem eqTx_ok {E : Env} {ρ : Ren} {u v : AV} {x y : Value} {K : Bool → Bool} (hx : den E ρ u = some x) (hy : den E ρ v = some y) (h : eqTx u v K = true) : ∃ l m : List UInt8, x = S l ∧ y = S m ∧ K (decide (l = m)) = true := by
  rcases ifB_ok h with ⟨_, g⟩ | ⟨_, g⟩
  · obtain ⟨l, rfl, g1⟩ := asT_ok hx g
    obtain ⟨m, rfl, g2⟩ := asT_ok hy g1
    refine ⟨l, m, rfl, rfl, ?_⟩
    rcases ifP_ok g2 with ⟨q, g⟩ | ⟨q, g⟩
    · rw [decide_eq_true q]; exact g
    · rw [decide_eq_false q]; exact g
  · obtain ⟨l, rfl, g1⟩ := asStr_ok g
    obtain ⟨m, rfl, g2⟩ := asStr_ok g1
    obtain ⟨hl, g3⟩ := must_ok g2
    obtain ⟨hm, g4⟩ := must_ok g3
    rw [small_eq] at hl hm
    rw [fB_eq, eqL_eq] at g4
    cases hx; cases hy
    refine ⟨_, _, rfl, rfl, ?_⟩
    rw [show decide (l.map UInt8.ofNat = m.map UInt8.ofNat) = decide (l = m) from by rw [Bool.eq_iff_iff]; simp [u8inj hl hm]]
    exact g4
noncomputable def eqX : Nat → ET → AV → AV → (Bool → Bool) → Bool :=
  Nat.rec (fun _ _ _ _ => false) (fun _ ih et u v K => ET.casesOn et
    (eqZ u v K)
    (eqBx u v K)
    (eqTx u v K)
    (fun fs => asAgg u fun cs => asAgg v fun ds => eqFs ih cs ds fs K)
    (fun offs n agg e => asAgg u fun cs => asAgg v fun ds => eqOs ih cs ds n agg e offs K))
def fieldsAs (chk : ET → TypeId → Bool) (P : Program) : List Field → List (Nat × Nat × Bool × ET) → Bool
  | [], [] => true
  | f :: fs, g :: gs => f.name != "_" && decide (f.offset = g.1) && decide (szOf P f.type = some g.2.1) && decide (isAg P f.type = some g.2.2.1) && chk g.2.2.2 f.type && fieldsAs chk P fs gs
  | _, _ => false
def chkET (P : Program) : Nat → ET → TypeId → Bool
  | 0, _, _ => false
  | d + 1, et, t => match et, P.underlying t with
    | .int, some (.int _) => true
    | .bool, some .bool => true
    | .str, some .string => true
    | .st gs, some (.struct fs) => !P.stoodInHeld t && fieldsAs (chkET P d) P fs.toList gs
    | .ar offs n agg e, some (.array len el) => decide (szOf P el = some n) && decide (isAg P el = some agg) && decide (offs = (List.range len).map (· * n)) && chkET P d e el
    | _, _ => false
section
variable {P : Program} {E : Env} {ρ : Ren}
theorem partA_ok {agg : Bool} {off n : Nat} {cs : List AV} {K : AV → Bool} {xs : List Value} (hd : denL E ρ cs = some xs) (hk : partA agg off n cs K = true) {t : TypeId} (hag : isAg P t = some agg) (hs : szOf P t = some n) :
    ∃ u z, den E ρ u = some z ∧ K u = true ∧ ∀ w, (part t xs.toArray off).run P w = .ok z w := part_ok hd hk hag hs
/-- What an equality of parts comes to, part by part. -/
def Cert (P : Program) (d : Nat) (xs ys : List Value) : List (TypeId × Nat) → Bool → Prop
  | [], b => b = true
  | (t, o) :: l, b => ∃ zu zv, (∀ w, (part t xs.toArray o).run P w = .ok zu w) ∧ (∀ w, (part t ys.toArray o).run P w = .ok zv w) ∧
      (((∀ (D : Nat) (w : World), d ≤ D → (Op.equalIn D t zu zv).run P w = .ok true w) ∧ Cert P d xs ys l b) ∨ ((∀ (D : Nat) (w : World), d ≤ D → (Op.equalIn D t zu zv).run P w = .ok false w) ∧ b = false))
theorem eqX_ok : ∀ (d : Nat) {et : ET} {u v : AV} {K : Bool → Bool} {x y : Value} {t : TypeId}, chkET P d et t = true → den E ρ u = some x → den E ρ v = some y → eqX d et u v K = true →
    ∃ b, K b = true ∧ (∀ (D : Nat) (w : World), d ≤ D → (Op.equalIn D t x y).run P w = .ok b w) ∧ ∀ dd, P.underlying t = some dd → (Instr.sameNow dd x y = some b ∨ Instr.sameNow dd x y = none)
  | 0, et, u, v, K, x, y, t, hc, _, _, _ => by simp [chkET] at hc
  | d + 1, et, u, v, K, x, y, t, hc, hx, hy, hk => by
    unfold chkET at hc
    split at hc
    · rename_i kk hu
      obtain ⟨k, a, b, rfl, rfl, g⟩ := eqZ_ok hx hy hk
      refine ⟨_, g, fun D w hD => ?_, fun dd hdd => ?_⟩
      · obtain ⟨D, rfl⟩ : ∃ D', D = D' + 1 := ⟨D - 1, by omega⟩
        simp [Op.equalIn, run_underlying hu, beq_dec]
      · rw [hu] at hdd; cases hdd
        exact .inl (by simp [Instr.sameNow, beq_dec])
    · rename_i hu
      obtain ⟨a, b, rfl, rfl, g2⟩ := eqBx_ok hx hy hk
      refine ⟨_, g2, fun D w hD => ?_, fun dd hdd => ?_⟩
      · obtain ⟨D, rfl⟩ : ∃ D', D = D' + 1 := ⟨D - 1, by omega⟩
        simp only [Op.equalIn, Sem.run_bind, run_underlying hu, Result.andThen_ok, Sem.run_pure]
        cases a <;> cases b <;> rfl
      · rw [hu] at hdd; cases hdd
        exact .inl (by cases a <;> cases b <;> rfl)
    · rename_i hu
      obtain ⟨l, m, rfl, rfl, g4⟩ := eqTx_ok hx hy hk
      have hb : ((⟨l.toArray⟩ : ByteArray) == ⟨m.toArray⟩) = decide (l = m) := by
        rw [beq_toListBytes, toList_mk, toList_mk, Bool.eq_iff_iff]
        simp
      refine ⟨_, g4, fun D w hD => ?_, fun dd hdd => ?_⟩
      · obtain ⟨D, rfl⟩ : ∃ D', D = D' + 1 := ⟨D - 1, by omega⟩
        simp only [Op.equalIn, Sem.run_bind, run_underlying hu, Result.andThen_ok, Sem.run_pure]
        rw [hb]
      · rw [hu] at hdd; cases hdd
        exact .inl (by simp only [Instr.sameNow, hb])
    · rename_i gs fs hu
      obtain ⟨cs, rfl, g1⟩ := asAgg_ok hk
      obtain ⟨ds, rfl, g2⟩ := asAgg_ok g1
      simp only [den] at hx hy
      split at hx
      case h_2 => cases hx
      rename_i xs hxs
      split at hy
      case h_2 => cases hy
      rename_i ys hys
      cases hx; cases hy
      simp only [Bool.and_eq_true, Bool.not_eq_true'] at hc
      obtain ⟨hst, hf⟩ := hc
      have key : ∀ (l : List Field) (gs : List (Nat × Nat × Bool × ET)), fieldsAs (chkET P d) P l gs = true → eqFs (eqX d) cs ds gs K = true → ∃ b, K b = true ∧ Cert P d xs ys (l.map fun f => (f.type, f.offset)) b ∧ ∀ f ∈ l, f.name ≠ "_" := by
        intro l
        induction l with
        | nil =>
          intro gs hf hk
          cases gs with
          | nil => exact ⟨true, hk, rfl, by simp⟩
          | cons g gs => simp [fieldsAs] at hf
        | cons f l ihl =>
          intro gs hf hk
          cases gs with
          | nil => simp [fieldsAs] at hf
          | cons g gs =>
            simp only [fieldsAs, Bool.and_eq_true, decide_eq_true_eq] at hf
            obtain ⟨⟨⟨⟨⟨f1, f2⟩, f3⟩, f4⟩, f5⟩, f6⟩ := hf
            have f1 : f.name ≠ "_" := by simpa using f1
            have hk' : partA g.2.2.1 g.1 g.2.1 cs (fun u => partA g.2.2.1 g.1 g.2.1 ds fun v => eqX d g.2.2.2 u v fun b => ifB b (eqFs (eqX d) cs ds gs K) (K false)) = true := hk
            obtain ⟨u, zu, u1, u2, u3⟩ := partA_ok hxs hk' f4 f3
            obtain ⟨v, zv, v1, v2, v3⟩ := partA_ok hys u2 f4 f3
            obtain ⟨b, b1, b2, _⟩ := eqX_ok d f5 u1 v1 v2
            rw [← f2] at u3 v3
            rcases ifB_ok b1 with ⟨rfl, b3⟩ | ⟨rfl, b3⟩
            · obtain ⟨c, c1, c2, c3⟩ := ihl gs f6 b3
              exact ⟨c, c1, ⟨zu, zv, u3, v3, .inl ⟨b2, c2⟩⟩, fun g hg => by rcases List.mem_cons.1 hg with rfl | hg <;> first | exact f1 | exact c3 g hg⟩
            · have hall : ∀ (l : List Field) (gs : List (Nat × Nat × Bool × ET)), fieldsAs (chkET P d) P l gs = true → ∀ f ∈ l, f.name ≠ "_" := by
                intro l
                induction l with
                | nil => intro gs _ f hf; simp at hf
                | cons f l ih =>
                  intro gs hg f' hf'
                  cases gs with
                  | nil => simp [fieldsAs] at hg
                  | cons g gs =>
                    simp only [fieldsAs, Bool.and_eq_true, decide_eq_true_eq] at hg
                    rcases List.mem_cons.1 hf' with rfl | hf'
                    · simpa using hg.1.1.1.1.1
                    · exact ih gs hg.2 f' hf'
              exact ⟨false, b3, ⟨zu, zv, u3, v3, .inr ⟨b2, rfl⟩⟩, fun g hg => by
                rcases List.mem_cons.1 hg with rfl | hg
                · exact f1
                · exact hall l gs f6 g hg⟩
      obtain ⟨b, b1, b2, b3⟩ := key fs.toList gs hf g2
      refine ⟨b, b1, fun D w hD => ?_, fun dd hdd => by rw [hu] at hdd; cases hdd; exact .inr rfl⟩
      obtain ⟨D, rfl⟩ : ∃ D', D = D' + 1 := ⟨D - 1, by omega⟩
      simp only [Op.equalIn, Sem.run_bind, run_underlying hu, Result.andThen_ok, run_program, hst, Bool.false_eq_true, if_false]
      rw [← Array.forIn_toList]
      generalize fs.toList = l at b2 b3
      clear hu hf key
      induction l with
      | nil =>
        have : b = true := b2
        subst this
        simp
      | cons f l ihl =>
        obtain ⟨zu, zv, u3, v3, hor⟩ := b2
        have hn := b3 f (by simp)
        simp only [List.forIn_cons, Sem.run_bind]
        rcases hor with ⟨e1, e2⟩ | ⟨e1, rfl⟩
        · have := ihl e2 fun g hg => b3 g (by simp [hg])
          simp [hn, u3, v3, e1 D _ (by omega)] at this ⊢
          exact this
        · simp [hn, u3, v3, e1 D _ (by omega)]
    · rename_i offs n agg e len el hu
      obtain ⟨cs, rfl, g1⟩ := asAgg_ok hk
      obtain ⟨ds, rfl, g2⟩ := asAgg_ok g1
      simp only [den] at hx hy
      split at hx
      case h_2 => cases hx
      rename_i xs hxs
      split at hy
      case h_2 => cases hy
      rename_i ys hys
      cases hx; cases hy
      simp only [Bool.and_eq_true, decide_eq_true_eq] at hc
      obtain ⟨⟨⟨c1, c2⟩, c3⟩, c4⟩ := hc
      have key : ∀ (l : List Nat), eqOs (eqX d) cs ds n agg e l K = true → ∃ b, K b = true ∧ Cert P d xs ys (l.map fun o => (el, o)) b := by
        intro l
        induction l with
        | nil => intro hk; exact ⟨true, hk, rfl⟩
        | cons o l ihl =>
          intro hk
          have hk' : partA agg o n cs (fun u => partA agg o n ds fun v => eqX d e u v fun b => ifB b (eqOs (eqX d) cs ds n agg e l K) (K false)) = true := hk
          obtain ⟨u, zu, u1, u2, u3⟩ := partA_ok hxs hk' c2 c1
          obtain ⟨v, zv, v1, v2, v3⟩ := partA_ok hys u2 c2 c1
          obtain ⟨b, b1, b2, _⟩ := eqX_ok d c4 u1 v1 v2
          rcases ifB_ok b1 with ⟨rfl, b3⟩ | ⟨rfl, b3⟩
          · obtain ⟨c, e1, e2⟩ := ihl b3
            exact ⟨c, e1, zu, zv, u3, v3, .inl ⟨b2, e2⟩⟩
          · exact ⟨false, b3, zu, zv, u3, v3, .inr ⟨b2, rfl⟩⟩
      obtain ⟨b, b1, b2⟩ := key offs g2
      refine ⟨b, b1, fun D w hD => ?_, fun dd hdd => by rw [hu] at hdd; cases hdd; exact .inr rfl⟩
      obtain ⟨D, rfl⟩ : ∃ D', D = D' + 1 := ⟨D - 1, by omega⟩
      simp only [Op.equalIn, Sem.run_bind, run_underlying hu, Result.andThen_ok, Go.Eng.run_sizeOf c1]
      rw [Std.Legacy.Range.forIn_eq_forIn_range']
      simp only [Std.Legacy.Range.size, Nat.sub_zero, Nat.add_sub_cancel, Nat.div_one]
      rw [c3, List.map_map, List.range_eq_range'] at b2
      generalize List.range' 0 len = l at b2 ⊢
      clear hu key c3 g2
      induction l with
      | nil =>
        have : b = true := b2
        subst this
        simp
      | cons i l ihl =>
        obtain ⟨zu, zv, u3, v3, hor⟩ := b2
        simp only [List.forIn_cons, Sem.run_bind]
        rcases hor with ⟨e1, e2⟩ | ⟨e1, rfl⟩
        · have := ihl e2
          simp [u3, v3, e1 D _ (by omega)] at this ⊢
          exact this
        · simp [u3, v3, e1 D _ (by omega)]
    · cases hc
end
end Go.Sy
