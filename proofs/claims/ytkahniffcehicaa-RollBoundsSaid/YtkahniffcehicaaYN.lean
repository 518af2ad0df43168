/- The executor: lengths, the lesser and the greater, tuples, ranges over maps. No condition: definitions and plain lemmas. -/
import Derived.Test.YtkahniffcehicaaYM
import Derived.Maps.RangeRun
namespace Go.Sy
open Go Go.RowKit Go.Eng
open Go.ChangeMaps (setBlock)

section
variable {P : Program} {E : Env} {ρ : Ren} {G : GS} {F : List Chunk} {M : T} {nx : Nat} {w : World}
/-! ### Lengths: of a text, of a slice, of a map -/
noncomputable def slenX (v : AV) (K : AV → Bool) : Bool := asStr v fun l => fN (lenL l) fun n => K (.int 0 (.ofNat n))
theorem slenX_ok {v : AV} {K : AV → Bool} {x : Value} {t ty : TypeId} (ht : P.underlying t = some .string) (hv : den E ρ v = some x) (hk : slenX v K = true) : ∃ u z, den E ρ u = some z ∧ K u = true ∧ ∀ (cs : Array Bool) w, (builtin .len #[t] ty cs #[x]).run P w = .ok (.value z) w := by
  obtain ⟨l, rfl, k1⟩ := asStr_ok hk
  rw [fN_eq, lenL_eq] at k1
  cases hv
  refine ⟨_, _, rfl, k1, fun cs w => ?_⟩
  have h1 : ByteArray.size ⟨(l.map UInt8.ofNat).toArray⟩ = l.length := by simp [ByteArray.size]
  simp [builtin, Builtin.len_, h1, goInt, run_underlying ht, kOf]
noncomputable def lenX (v : AV) (K : AV → Bool) : Bool := asSl v (K (.int 0 (.ofNat 0))) fun _ _ n _ => K (.int 0 (.ofNat n))
theorem lenX_ok {v : AV} {K : AV → Bool} {x : Value} {t ty e : TypeId} (ht : P.underlying t = some (.slice e)) (hv : den E ρ v = some x) (hk : lenX v K = true) : ∃ u z, den E ρ u = some z ∧ K u = true ∧ ∀ (cs : Array Bool) w, (builtin .len #[t] ty cs #[x]).run P w = .ok (.value z) w := by
  rcases asSl_ok hk with ⟨rfl, k1⟩ | ⟨i, o, n, c, rfl, k1⟩
  · cases hv
    exact ⟨_, _, rfl, k1, fun cs w => by simp [builtin, Builtin.len_, goInt, run_underlying ht, kOf]⟩
  · simp only [den] at hv
    split at hv
    · cases hv
      exact ⟨_, _, rfl, k1, fun cs w => by simp [builtin, Builtin.len_, goInt, run_underlying ht, kOf]⟩
    · cases hv
noncomputable def mlenX (v : AV) (M : T) (K : AV → Bool) : Bool := asMap v (K (.int 0 (.ofNat 0))) fun i => mapOf M i fun es _ => fN (lenL es) fun n => K (.int 0 (.ofNat n))
theorem mlenX_ok (h : Sim E ρ G F M nx w) {v : AV} {K : AV → Bool} {x : Value} {t ty kt e : TypeId} (ht : P.underlying t = some (.map kt e)) (hv : den E ρ v = some x) (hk : mlenX v M K = true) : ∃ u z, den E ρ u = some z ∧ K u = true ∧ ∀ cs : Array Bool, (builtin .len #[t] ty cs #[x]).run P w = .ok (.value z) w := by
  rcases asMap_ok hk with ⟨rfl, k1⟩ | ⟨i, rfl, k1⟩
  · cases hv
    exact ⟨_, _, rfl, k1, fun cs => by simp [builtin, Builtin.len_, goInt, run_underlying ht, kOf]⟩
  · obtain ⟨es, cl, hi, k2⟩ := mapOf_ok k1
    rw [fN_eq, lenL_eq] at k2
    obtain ⟨f, ms, f1, f2, f3⟩ := h.map hi
    simp only [den, f1] at hv
    cases hv
    refine ⟨_, _, rfl, k2, fun cs => ?_⟩
    have := denE_len f2
    simp [builtin, Builtin.len_, goInt, run_underlying ht, kOf, MapKept.run_getObj_map f3, this]
noncomputable def mxX (mx : Bool) (v1 v2 : AV) (K : AV → Bool) : Bool := asI v1 fun k a => asI v2 fun k2 b => must (Nat.beq k k2) (ifB (ltI a b) (ifB mx (K v2) (K v1)) (ifB mx (K v1) (K v2)))
theorem mxX_ok {mx : Bool} {v1 v2 : AV} {K : AV → Bool} {x y : Value} {ta : Array TypeId} {ty : TypeId} (h1 : den E ρ v1 = some x) (h2 : den E ρ v2 = some y) (hk : mxX mx v1 v2 K = true) :
    ∃ u z, den E ρ u = some z ∧ K u = true ∧ ∀ (cs : Array Bool) w, (builtin (bif mx then .max else .min) ta ty cs #[x, y]).run P w = .ok (.value z) w := by
  obtain ⟨k, a, b, rfl, rfl, g⟩ := two_ok (f := fun k a b => ifB (ltI a b) (ifB mx (K v2) (K v1)) (ifB mx (K v1) (K v2))) hk
  cases h1; cases h2
  rw [ltI_eq] at g
  rcases ifB_ok g with ⟨q, g⟩ | ⟨q, g⟩
  · have q : a < b := of_decide_eq_true q
    rcases ifB_ok g with ⟨rfl, g⟩ | ⟨rfl, g⟩
    · exact ⟨_, _, rfl, g, fun cs w => by simp [builtin, Builtin.max_, Builtin.max2, q]⟩
    · exact ⟨_, _, rfl, g, fun cs w => by
        have : ¬ b < a := by omega
        simp [builtin, Builtin.min_, Builtin.min2, this]⟩
  · have q : ¬ a < b := of_decide_eq_false q
    rcases ifB_ok g with ⟨rfl, g⟩ | ⟨rfl, g⟩
    · exact ⟨_, _, rfl, g, fun cs w => by simp [builtin, Builtin.max_, Builtin.max2, q]⟩
    · refine ⟨_, _, rfl, g, fun cs w => ?_⟩
      by_cases e : b < a
      · simp [builtin, Builtin.min_, Builtin.min2, e]
      · have : a = b := by omega
        subst this
        simp [builtin, Builtin.min_, Builtin.min2]
noncomputable def extX (i : Nat) (v : AV) (K : AV → Bool) : Bool := asTup v fun l => atO (nth l i) K
theorem extX_ok {i : Nat} {v : AV} {K : AV → Bool} {x : Value} (hv : den E ρ v = some x) (hk : extX i v K = true) : ∃ u z, den E ρ u = some z ∧ K u = true ∧ ∀ w, (Instr.extract x i).run P w = .ok z w := by
  obtain ⟨l, rfl, k1⟩ := asTup_ok hk
  obtain ⟨u, hu, k2⟩ := atO_ok k1
  rw [nth_eq] at hu
  simp only [den] at hv
  split at hv
  · rename_i xs hd
    cases hv
    obtain ⟨z, h1, h2⟩ := denL_at hd hu
    exact ⟨u, z, h1, k2, fun w => by simp [Instr.extract, h2]⟩
  · cases hv
noncomputable def sixX (v iv : AV) (K : AV → Bool) : Bool := asStr v fun l => asNat iv fun _ n => atO (nth l n) fun c => must (Nat.blt c 256) (K (.int 1 (.ofNat c)))
theorem sixX_ok {v iv : AV} {K : AV → Bool} {x y : Value} {t : TypeId} (ht : P.underlying t = some .string) (hv : den E ρ v = some x) (hi : den E ρ iv = some y) (hk : sixX v iv K = true) : ∃ u z, den E ρ u = some z ∧ K u = true ∧ ∀ w, (Instr.index t x y).run P w = .ok z w := by
  obtain ⟨l, rfl, k1⟩ := asStr_ok hk
  obtain ⟨kd, n, rfl, k2⟩ := asNat_ok k1
  obtain ⟨c, hc, k3⟩ := atO_ok k2
  obtain ⟨hb, k4⟩ := must_ok k3
  rw [Nat.blt_eq] at hb
  rw [nth_eq] at hc
  cases hv; cases hi
  refine ⟨_, _, rfl, k4, fun w => ?_⟩
  have hlt := (List.getElem?_eq_some_iff.1 hc).1
  have hg : (ByteArray.data ⟨(l.map UInt8.ofNat).toArray⟩)[n]? = some (UInt8.ofNat c) := by simp [hc]
  have h1 : ByteArray.size ⟨(l.map UInt8.ofNat).toArray⟩ = l.length := by simp [ByteArray.size]
  have hx : l[n]'hlt = c := (List.getElem?_eq_some_iff.1 hc).2
  simp [Instr.index, run_underlying ht, asIntOf, h1, hlt, kOf]
  show (((((l.map UInt8.ofNat).toArray)[n]'(by simp; omega)).toNat : Nat) : Int) = c
  simp [hx]
  omega

/-! ### Ranges over maps -/
noncomputable def itX (mi : Option Nat) (cl : Nat) (M : T) (nx : Nat) (K : AV → T → Nat → Bool) : Bool := T.set fuelT M nx (some (.iter mi cl [] cl)) fun M' => fN (Nat.succ nx) fun n => K (.ptr nx 0) M' n
noncomputable def rngX (m : AV) (M : T) (nx : Nat) (K : AV → T → Nat → Bool) : Bool := asMap m (itX none 0 M nx K) fun i => mapOf M i fun _ cl => itX (some i) cl M nx K
theorem rngX_ok (h : Sim E ρ G F M nx w) {m : AV} {K : AV → T → Nat → Bool} {x : Value} {t kt e : TypeId} (ht : P.underlying t = some (.map kt e)) (hm : den E ρ m = some x) (hk : rngX m M nx K = true) :
    ∃ v M' nx' ρ' w' z, ρ.Le ρ' ∧ Sim E ρ' G F M' nx' w' ∧ K v M' nx' = true ∧ den E ρ' v = some z ∧ (Instr.range t x).run P w = .ok z w' := by
  have hn := h.fresh nx (Nat.le_refl _)
  rcases asMap_ok hk with ⟨rfl, g⟩ | ⟨i, rfl, g⟩
  · cases hm
    obtain ⟨M', k1, k2, k3⟩ := T.set_ok _ _ _ _ _ g
    rw [fN_eq] at k1
    exact ⟨_, M', _, ρ.set nx ⟨w.heap.size, 0⟩, w.alloc (.mapIter none 0 #[] 0), .pointer (some ⟨w.heap.size, 0, none⟩), Ren.le_set _ hn, h.alloc (o := .iter none 0 [] 0) (ob := .mapIter none 0 #[] 0) hn (Nat.le_succ _) (Nat.lt_succ_self _) (cap := 0) ⟨none, rfl, rfl⟩ k2 k3, k1, by simp [den, Ren.set_self], run_range_nilMap w t kt e ht⟩
  · obtain ⟨es, cl, hi, g2⟩ := mapOf_ok g
    obtain ⟨f, ms, f1, f2, f3⟩ := h.map hi
    simp only [den, f1] at hm
    cases hm
    obtain ⟨M', k1, k2, k3⟩ := T.set_ok _ _ _ _ _ g2
    rw [fN_eq] at k1
    have hne : i ≠ nx := fun q => by rw [q, hn] at f1; cases f1
    exact ⟨_, M', _, ρ.set nx ⟨w.heap.size, 0⟩, w.alloc (.mapIter (some f.b) cl #[] cl), .pointer (some ⟨w.heap.size, 0, none⟩), Ren.le_set _ hn, h.alloc (o := .iter (some i) cl [] cl) (ob := .mapIter (some f.b) cl #[] cl) hn (Nat.le_succ _) (Nat.lt_succ_self _) (cap := 0) ⟨some f.b, ⟨f, f1, rfl⟩, rfl⟩ k2 k3, k1, by simp [den, Ren.set_self], run_range_map w t kt e f.b _ cl ht f3⟩
noncomputable def hasN (n : Nat) (l : List Nat) : Bool := List.rec false (fun x _ ih => Bool.rec ih true (Nat.beq x n)) l
theorem hasN_eq (n : Nat) : ∀ l, hasN n l = l.contains n
  | [] => rfl
  | x :: l => by
    have : hasN n (x :: l) = Bool.rec (motive := fun _ => Bool) (hasN n l) true (Nat.beq x n) := rfl
    rw [this, hasN_eq n l]
    by_cases h : x = n
    · subst h; simp
    · have hb : Nat.beq x n = false := by
        cases e : Nat.beq x n with
        | false => rfl
        | true => exact absurd (Nat.eq_of_beq_eq_true e) h
      simp [hb, Ne.symm h]
noncomputable def bornB (since : Nat) (es : List (AV × AV × Nat)) : Bool := List.rec true (fun e _ ih => Bool.rec false ih (Nat.blt e.2.2 since)) es
theorem bornB_ok {since : Nat} : ∀ {es : List (AV × AV × Nat)} {ms : List MapEntry}, bornB since es = true → denE E ρ es = some ms → ∀ x ∈ ms, x.born < since
  | [], ms, _, h => by simp [denE] at h; subst h; simp
  | (k, v, b) :: es, ms, hb, h => by
    obtain ⟨x, y, ms', h1, h2, h3, rfl⟩ := denE_cons h
    have hb' : Bool.rec (motive := fun _ => Bool) false (bornB since es) (Nat.blt b since) = true := hb
    have hv : Nat.blt b since = true := by
      cases q : Nat.blt b since with
      | true => rfl
      | false => rw [q] at hb'; cases hb'
    rw [hv] at hb'
    rw [Nat.blt_eq] at hv
    intro z hz
    rcases List.mem_cons.1 hz with rfl | hz
    · exact hv
    · exact bornB_ok hb' h3 z hz
/-- Every entry that is left; whether one is. -/
noncomputable def candX (seen : List Nat) (es : List (AV × AV × Nat)) (K : AV × AV × Nat → Bool) : Bool := List.rec true (fun e _ ih => ifB (hasN e.2.2 seen) ih (must (K e) ih)) es
noncomputable def anyX (seen : List Nat) (es : List (AV × AV × Nat)) : Bool := List.rec false (fun e _ ih => ifB (hasN e.2.2 seen) ih true) es
theorem candX_ok {seen : List Nat} {K : AV × AV × Nat → Bool} : ∀ {es : List (AV × AV × Nat)} {ms : List MapEntry}, candX seen es K = true → denE E ρ es = some ms → ∀ x ∈ ms, seen.contains x.born = false → ∃ e, K e = true ∧ e ∈ es ∧ den E ρ e.1 = some x.key ∧ den E ρ e.2.1 = some x.val ∧ e.2.2 = x.born
  | [], ms, _, h => by simp [denE] at h; subst h; simp
  | (k, v, b) :: es, ms, hc, h => by
    obtain ⟨x, y, ms', h1, h2, h3, rfl⟩ := denE_cons h
    have hc' : ifB (hasN b seen) (candX seen es K) (must (K (k, v, b)) (candX seen es K)) = true := hc
    intro z hz hs
    rcases ifB_ok hc' with ⟨q, hc'⟩ | ⟨q, hc'⟩
    · rcases List.mem_cons.1 hz with rfl | hz
      · rw [hasN_eq] at q
        rw [q] at hs; cases hs
      · obtain ⟨e, e1, e2, e3⟩ := candX_ok hc' h3 z hz hs
        exact ⟨e, e1, by simp [e2], e3⟩
    · obtain ⟨q1, q2⟩ := must_ok hc'
      rcases List.mem_cons.1 hz with rfl | hz
      · exact ⟨_, q1, by simp, h1, h2, rfl⟩
      · obtain ⟨e, e1, e2, e3⟩ := candX_ok q2 h3 z hz hs
        exact ⟨e, e1, by simp [e2], e3⟩
theorem anyX_ok {seen : List Nat} : ∀ {es : List (AV × AV × Nat)} {ms : List MapEntry}, denE E ρ es = some ms → (anyX seen es = true ↔ ∃ x ∈ ms, seen.contains x.born = false)
  | [], ms, h => by simp [denE] at h; subst h; simp [anyX]
  | (k, v, b) :: es, ms, h => by
    obtain ⟨x, y, ms', h1, h2, h3, rfl⟩ := denE_cons h
    have hu : anyX seen ((k, v, b) :: es) = ifB (hasN b seen) (anyX seen es) true := rfl
    rw [hu, ifB_eq, hasN_eq]
    have ih := anyX_ok (seen := seen) h3
    cases q : seen.contains b with
    | true =>
      simp only [cond_true, ih, List.mem_cons, exists_eq_or_imp, q, Bool.true_eq_false, false_or]
    | false =>
      simp only [cond_false, List.mem_cons, exists_eq_or_imp, q, true_or]
noncomputable def nxtX (it : AV) (M : T) (K : AV → T → Bool) : Bool := asPtr it fun r o => must (Nat.beq o 0) (iterOf M r fun mi since seen c0 => Option.casesOn mi (K (.tup [.bool false]) M) fun i => mapOf M i fun es cl =>
  must (Nat.ble since c0) (must (bornB since es) (ifB (anyX seen es)
    (candX seen es fun e => app seen [e.2.2] fun seen' => T.set fuelT M r (some (.iter (some i) since seen' cl)) fun M' => K (.tup [.bool true, e.1, e.2.1]) M')
    (K (.tup [.bool false]) M))))
theorem nxtX_ok (h : Sim E ρ G F M nx w) {it : AV} {K : AV → T → Bool} {x : Value} {ty : TypeId} (hv : den E ρ it = some x) (hk : nxtX it M K = true) :
    ∃ v M' w' z, Sim E ρ G F M' nx w' ∧ K v M' = true ∧ den E ρ v = some z ∧ (Instr.next x false ty).run P w = .ok z w' := by
  obtain ⟨r, o, rfl, g1⟩ := asPtr_ok hk
  obtain ⟨g2, g3⟩ := must_ok g1
  have g2 := Nat.eq_of_beq_eq_true g2
  subst g2
  obtain ⟨mi, since, seen, c0, hi, g4⟩ := iterOf_ok g3
  obtain ⟨e, ob, e1, e2, mb, e3, rfl⟩ := h.obj hi
  simp only [den, e1] at hv
  cases hv
  cases mi with
  | none =>
    have e3 : mb = none := e3
    subst e3
    refine ⟨_, M, w, .tuple #[.bool false], h, g4, rfl, ?_⟩
    simp only [Instr.next, getObj, Sem.run_bind, Sem.run, e2, Result.andThen]
    rfl
  | some i =>
    obtain ⟨f, f1, rfl⟩ : ∃ f, ρ i = some f ∧ mb = some f.b := e3
    obtain ⟨es, cl, hm, g5⟩ := mapOf_ok g4
    obtain ⟨f', ms, f2, f3, f4⟩ := h.map hm
    rw [f1] at f2; cases f2
    obtain ⟨g6, g7⟩ := must_ok g5
    obtain ⟨g8, g9⟩ := must_ok g7
    rw [Nat.ble_eq] at g6
    have hold := bornB_ok g8 f3
    rcases run_next_at (P := P) w ty e.b f.b since c0 seen.toArray ms.toArray cl e2 f4 (by simpa using hold) g6 with ⟨n1, n2⟩ | ⟨en, n1, w1, n2, n3⟩
    · have hno : anyX seen es = false := by
        cases q : anyX seen es with
        | false => rfl
        | true =>
          obtain ⟨x, hx, hs⟩ := (anyX_ok f3).1 q
          have hmem : x ∈ leftOf ms.toArray seen.toArray := by simpa [leftOf] using ⟨hx, by simpa using hs⟩
          have := Array.size_pos_of_mem hmem
          omega
      rw [ifB_eq, hno, cond_false] at g9
      exact ⟨_, M, w, _, h, g9, rfl, n2⟩
    · have hmem : en ∈ ms ∧ seen.contains en.born = false := by simpa [leftOf] using n1
      have hyes : anyX seen es = true := (anyX_ok f3).2 ⟨en, hmem⟩
      rw [ifB_eq, hyes, cond_true] at g9
      obtain ⟨c, c1, c2, c3, c4, c5⟩ := candX_ok g9 f3 en hmem.1 hmem.2
      rw [app_eq] at c1
      obtain ⟨M', k1, k2, k3⟩ := T.set_ok _ _ _ _ _ c1
      have hw1 : Sim E ρ G F M nx w1 := by rcases n2 with rfl | rfl <;> first | exact h | exact h.drawn
      have hr1 : w1.heap = w.heap := by rcases n2 with rfl | rfl <;> rfl
      have hlt := lt_of_heap e2
      refine ⟨_, M', _, .tuple #[.bool true, en.key, en.val], ?_, k1, by simp only [den, denL, c3, c4], n3⟩
      refine hw1.turn (o' := .iter (some i) since (seen ++ [c.2.2]) cl) (ob' := .mapIter (some f.b) since (seen.toArray.push en.born) cl) hi e1 rfl rfl rfl (fun b _ hb => ?_) ?_ ⟨some f.b, ⟨f, f1, rfl⟩, by rw [c5]; simp⟩ k2 k3
      · have : ¬ e.b = b := fun q => hb q.symm
        simp [setBlock, this]
      · simp [setBlock, hr1, hlt]
noncomputable def fndB (b : Nat) (es : List (AV × AV × Nat)) (K : AV × AV × Nat → Bool) : Bool := List.rec false (fun e _ ih => ifB (Nat.beq e.2.2 b) (K e) ih) es
theorem fndB_ok {b : Nat} {K : AV × AV × Nat → Bool} : ∀ {es : List (AV × AV × Nat)} {ms : List MapEntry}, fndB b es K = true → denE E ρ es = some ms → ∃ e x y, K e = true ∧ den E ρ e.1 = some x ∧ den E ρ e.2.1 = some y ∧ ms.find? (·.born == b) = some ⟨x, y, b⟩
  | [], ms, hf, h => by cases hf
  | (k, v, c) :: es, ms, hf, h => by
    obtain ⟨x, y, ms', h1, h2, h3, rfl⟩ := denE_cons h
    have hf' : ifB (Nat.beq c b) (K (k, v, c)) (fndB b es K) = true := hf
    rcases ifB_ok hf' with ⟨q, g⟩ | ⟨q, g⟩
    · have := Nat.eq_of_beq_eq_true q
      subst this
      exact ⟨_, x, y, g, h1, h2, by simp⟩
    · obtain ⟨e, x', y', r1, r2, r3, r4⟩ := fndB_ok g h3
      refine ⟨e, x', y', r1, r2, r3, ?_⟩
      have : (c == b) = false := by
        rw [nbeq] at q
        simpa using q
      simp [this, r4]
noncomputable def lastX (l : List Nat) (K : Nat → Bool) : Bool := List.rec false (fun x xs ih => List.casesOn xs (K x) fun _ _ => ih) l
theorem lastX_ok {K : Nat → Bool} : ∀ {l : List Nat}, lastX l K = true → ∃ x r, l = r ++ [x] ∧ K x = true
  | [], h => by cases h
  | [x], h => ⟨x, [], rfl, h⟩
  | x :: y :: l, h => by
    obtain ⟨z, r, h1, h2⟩ := lastX_ok (l := y :: l) h
    exact ⟨z, x :: r, by rw [h1]; rfl, h2⟩
noncomputable def entX (it : AV) (M : T) (K : AV → Bool) : Bool := asPtr it fun r o => must (Nat.beq o 0) (iterOf M r fun mi _ seen c0 => atO mi fun i => mapOf M i fun es cl => must (Nat.beq c0 cl) (lastX seen fun b => fndB b es fun e => K (.tup [e.1, e.2.1])))
theorem entX_ok (h : Sim E ρ G F M nx w) {it : AV} {K : AV → Bool} {x : Value} (hv : den E ρ it = some x) (hk : entX it M K = true) : ∃ v z, den E ρ v = some z ∧ K v = true ∧ (Instr.entry x).run P w = .ok z w := by
  obtain ⟨r, o, rfl, g1⟩ := asPtr_ok hk
  obtain ⟨g2, g3⟩ := must_ok g1
  have g2 := Nat.eq_of_beq_eq_true g2
  subst g2
  obtain ⟨mi, since, seen, c0, hi, g4⟩ := iterOf_ok g3
  obtain ⟨i, rfl, g5⟩ := atO_ok g4
  obtain ⟨e, ob, e1, e2, mb, e3, rfl⟩ := h.obj hi
  obtain ⟨f, f1, rfl⟩ : ∃ f, ρ i = some f ∧ mb = some f.b := e3
  simp only [den, e1] at hv
  cases hv
  obtain ⟨es, cl, hm, g6⟩ := mapOf_ok g5
  obtain ⟨f', ms, f2, f3, f4⟩ := h.map hm
  rw [f1] at f2; cases f2
  obtain ⟨g7, g8⟩ := must_ok g6
  have g7 := Nat.eq_of_beq_eq_true g7
  subst g7
  obtain ⟨b, q, rfl, g9⟩ := lastX_ok g8
  obtain ⟨c, x, y, c1, c2, c3, c4⟩ := fndB_ok g9 f3
  refine ⟨_, .tuple #[x, y], by simp only [den, denL, c2, c3], c1, ?_⟩
  have hb : (q ++ [b]).toArray.back? = some b := by simp
  have hf : ms.toArray.find? (·.born == b) = some ⟨x, y, b⟩ := by simpa using c4
  simp only [Instr.entry, getObj, Sem.run_bind, Sem.run, e2, f4, Result.andThen, hb, hf]
  simp
end
end Go.Sy
