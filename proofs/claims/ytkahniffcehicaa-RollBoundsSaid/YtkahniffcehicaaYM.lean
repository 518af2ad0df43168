/- The executor: maps written, ranged over. No condition: definitions and plain lemmas. -/
import Derived.Test.YtkahniffcehicaaYL
namespace Go.Sy
open Go Go.RowKit Go.Eng

noncomputable def sb1 (u v : AV) : Bool := AV.casesOn u false (fun k a => asI v fun k2 b => Bool.and (Nat.beq k k2) (eqI a b)) (fun a => asB v fun b => Bool.rec (Bool.not b) b a) (fun l => asStr v fun m => eqL l m) (fun i o => asPtr v fun j p => Bool.and (Nat.beq i j) (Nat.beq o p)) (fun _ _ _ _ => false) (fun _ => false) false false false false false (fun _ _ => false) (fun _ _ => false) (fun _ => false) (fun _ => false) (fun _ => false) (fun _ => false) (fun _ => false)
noncomputable def sbL (l m : List AV) : Bool := List.rec (motive := fun _ => List AV → Bool) (fun m => List.casesOn m true (fun _ _ => false)) (fun x _ ih m => List.casesOn m false (fun y r => Bool.and (sb1 x y) (ih r))) l m
/-- Have two values the same bits? -/
noncomputable def sbX (u v : AV) : Bool := AV.casesOn u false (fun _ _ => sb1 u v) (fun _ => sb1 u v) (fun _ => sb1 u v) (fun _ _ => sb1 u v) (fun _ _ _ _ => false) (fun _ => false) false false false false false (fun _ _ => false) (fun _ _ => false) (fun _ => false) (fun l => asAgg v fun m => sbL l m) (fun _ => false) (fun _ => false) (fun _ => false)
noncomputable def ers {α : Type _} (l : List α) : Nat → (List α → Bool) → Bool := List.rec (fun _ _ => false) (fun x xs ih n K => Nat.rec (K xs) (fun m _ => ih m fun r => K (x :: r)) n) l
theorem ers_ok {α : Type _} : ∀ {l : List α} {n : Nat} {K : List α → Bool}, ers l n K = true → K (l.eraseIdx n) = true ∧ n < l.length
  | [], n, K, h => by cases h
  | x :: l, 0, K, h => ⟨h, by simp⟩
  | x :: l, n + 1, K, h => by
    have h' : ers l n (fun r => K (x :: r)) = true := h
    obtain ⟨h1, h2⟩ := ers_ok h'
    exact ⟨by simpa using h1, by simp; omega⟩
section
variable {P : Program} {E : Env} {ρ : Ren} {G : GS} {F : List Chunk} {M : T} {nx : Nat} {w : World}
theorem band {a b : Bool} (h : Bool.and a b = true) : a = true ∧ b = true := by
  have h' : (a && b) = true := h
  simpa using h'
theorem sb1_ok {u v : AV} {x y : Value} (h : sb1 u v = true) (hx : den E ρ u = some x) (hy : den E ρ v = some y) (n : Nat) : Instr.sameBits n x y = true := by
  cases u <;> first | (cases h; done) | skip
  case int k a =>
    obtain ⟨k2, b, rfl, h1⟩ := asI_ok h
    obtain ⟨h2, h3⟩ := band h1
    have h2 := Nat.eq_of_beq_eq_true h2
    subst h2
    rw [eqI_eq, decide_eq_true_eq] at h3
    subst h3
    cases hx; cases hy
    unfold Instr.sameBits; simp
  case bool a =>
    obtain ⟨b, rfl, h1⟩ := asB_ok h
    cases hx; cases hy
    unfold Instr.sameBits
    cases a <;> cases b <;> first | rfl | cases h1
  case str l =>
    obtain ⟨m, rfl, h1⟩ := asStr_ok h
    rw [eqL_eq, decide_eq_true_eq] at h1
    subst h1
    cases hx; cases hy
    unfold Instr.sameBits
    rw [beq_toListBytes]; simp
  case ptr i o =>
    obtain ⟨j, p, rfl, h1⟩ := asPtr_ok h
    obtain ⟨h2, h3⟩ := band h1
    have h2 := Nat.eq_of_beq_eq_true h2
    have h3 := Nat.eq_of_beq_eq_true h3
    subst h2; subst h3
    rw [hx] at hy; cases hy
    simp only [den] at hx
    split at hx <;> cases hx
    unfold Instr.sameBits; simp
theorem sbL_ok : ∀ {l m : List AV} {xs ys : List Value}, sbL l m = true → denL E ρ l = some xs → denL E ρ m = some ys → ∀ n, xs.length = ys.length ∧ (xs.zip ys).all (fun p => Instr.sameBits n p.1 p.2) = true
  | [], [], xs, ys, _, hx, hy, n => by simp [denL] at hx hy; subst hx; subst hy; simp
  | [], b :: m, xs, ys, h, hx, hy, n => by cases h
  | a :: l, [], xs, ys, h, hx, hy, n => by cases h
  | a :: l, b :: m, xs, ys, h, hx, hy, n => by
    obtain ⟨x, xs, h1, h2, rfl⟩ := denL_cons hx
    obtain ⟨y, ys, h3, h4, rfl⟩ := denL_cons hy
    obtain ⟨h5, h6⟩ := band (a := sb1 a b) (b := sbL l m) h
    obtain ⟨h7, h8⟩ := sbL_ok h6 h2 h4 n
    refine ⟨by simp [h7], ?_⟩
    simp only [List.zip_cons_cons, List.all_cons, Bool.and_eq_true]
    exact ⟨sb1_ok h5 h1 h3 n, h8⟩
theorem sbX_ok {u v : AV} {x y : Value} (h : sbX u v = true) (hx : den E ρ u = some x) (hy : den E ρ v = some y) : Instr.sameBits 10000 x y = true := by
  cases u <;> first | (cases h; done) | skip
  case int k a => exact sb1_ok (u := .int k a) h hx hy 10000
  case bool a => exact sb1_ok (u := .bool a) h hx hy 10000
  case str a => exact sb1_ok (u := .str a) h hx hy 10000
  case ptr i o => exact sb1_ok (u := .ptr i o) h hx hy 10000
  case agg l =>
    obtain ⟨m, rfl, h1⟩ := asAgg_ok h
    simp only [den] at hx hy
    split at hx
    case h_2 => cases hx
    rename_i xs hxs
    split at hy
    case h_2 => cases hy
    rename_i ys hys
    cases hx; cases hy
    obtain ⟨h2, h3⟩ := sbL_ok h1 hxs hys 9999
    show Instr.sameBits (9999 + 1) (.agg xs.toArray) (.agg ys.toArray) = true
    unfold Instr.sameBits
    simp only [Bool.and_eq_true, beq_iff_eq]
    exact ⟨by simpa using h2, by simpa using h3⟩

theorem denE_app : ∀ {es : List (AV × AV × Nat)} {ms : List MapEntry} {k v : AV} {b : Nat} {x y : Value}, denE E ρ es = some ms → den E ρ k = some x → den E ρ v = some y → denE E ρ (es ++ [(k, v, b)]) = some (ms ++ [⟨x, y, b⟩])
  | [], ms, k, v, b, x, y, h, h1, h2 => by simp [denE] at h; subst h; simp [denE, h1, h2]
  | (k', v', b') :: es, ms, k, v, b, x, y, h, h1, h2 => by
    obtain ⟨x', y', ms', q1, q2, q3, rfl⟩ := denE_cons h
    have := denE_app q3 h1 h2 (b := b)
    simp [denE, q1, q2, this]
theorem denE_at : ∀ {es : List (AV × AV × Nat)} {ms : List MapEntry} {i : Nat} {e : AV × AV × Nat}, denE E ρ es = some ms → es[i]? = some e → ∃ x y, den E ρ e.1 = some x ∧ den E ρ e.2.1 = some y ∧ ms[i]? = some ⟨x, y, e.2.2⟩
  | [], ms, i, e, h, hi => by simp at hi
  | (k', v', b') :: es, ms, 0, e, h, hi => by
    obtain ⟨x', y', ms', q1, q2, q3, rfl⟩ := denE_cons h
    simp at hi; subst hi
    exact ⟨x', y', q1, q2, rfl⟩
  | (k', v', b') :: es, ms, i + 1, e, h, hi => by
    obtain ⟨x', y', ms', q1, q2, q3, rfl⟩ := denE_cons h
    obtain ⟨x, y, h1, h2, h3⟩ := denE_at q3 (show es[i]? = some e by simpa using hi)
    exact ⟨x, y, h1, h2, by simpa using h3⟩
theorem denE_len : ∀ {es : List (AV × AV × Nat)} {ms : List MapEntry}, denE E ρ es = some ms → ms.length = es.length
  | [], ms, h => by simp [denE] at h; subst h; rfl
  | (k', v', b') :: es, ms, h => by
    obtain ⟨x', y', ms', q1, q2, q3, rfl⟩ := denE_cons h
    simp [denE_len q3]
theorem denE_set : ∀ {es : List (AV × AV × Nat)} {ms : List MapEntry} {i : Nat} {k v : AV} {b : Nat} {x y : Value}, denE E ρ es = some ms → den E ρ k = some x → den E ρ v = some y → denE E ρ (es.set i (k, v, b)) = some (ms.set i ⟨x, y, b⟩)
  | [], ms, i, k, v, b, x, y, h, h1, h2 => by simp [denE] at h; subst h; simp [denE]
  | (k', v', b') :: es, ms, 0, k, v, b, x, y, h, h1, h2 => by
    obtain ⟨x', y', ms', q1, q2, q3, rfl⟩ := denE_cons h
    simp [denE, h1, h2, q3]
  | (k', v', b') :: es, ms, i + 1, k, v, b, x, y, h, h1, h2 => by
    obtain ⟨x', y', ms', q1, q2, q3, rfl⟩ := denE_cons h
    have := denE_set q3 h1 h2 (i := i) (b := b)
    simp [denE, q1, q2, this]
theorem denE_erase : ∀ {es : List (AV × AV × Nat)} {ms : List MapEntry} {i : Nat}, denE E ρ es = some ms → denE E ρ (es.eraseIdx i) = some (ms.eraseIdx i)
  | [], ms, i, h => by simp [denE] at h; subst h; simp [denE]
  | (k', v', b') :: es, ms, 0, h => by
    obtain ⟨x', y', ms', q1, q2, q3, rfl⟩ := denE_cons h
    simpa using q3
  | (k', v', b') :: es, ms, i + 1, h => by
    obtain ⟨x', y', ms', q1, q2, q3, rfl⟩ := denE_cons h
    have := denE_erase q3 (i := i)
    simp [denE, q1, q2, this]
/-- A map's entries turned. -/
theorem Sim.mapTurn (h : Sim E ρ G F M nx w) {i : Nat} {es es' : List (AV × AV × Nat)} {cl cl' : Nat} {e : REnt} {ms' : List MapEntry} {M' : T} (hi : M.get i = some (.map es cl)) (he : ρ i = some e) (hd : denE E ρ es' = some ms') (h1 : M'.get i = some (.map es' cl')) (h2 : ∀ m, m ≠ i → M'.get m = M.get m) :
    Sim E ρ G F M' nx { w with heap := w.heap.setIfInBounds e.b (.map ms'.toArray cl') } := by
  obtain ⟨e', ms, q1, q2, q3⟩ := h.map hi
  rw [he] at q1; cases q1
  have hlt := lt_of_heap q3
  exact h.turn (o' := .map es' cl') (ob' := .map ms'.toArray cl') hi he rfl rfl rfl (fun b _ hb => by
    have : ¬ e.b = b := fun q => hb q.symm
    simp [this]) (by simp [hlt]) ⟨ms', hd, rfl⟩ h1 h2

/-! ### Made, written -/
noncomputable def mkmX (M : T) (nx : Nat) (K : AV → T → Nat → Bool) : Bool := T.set fuelT M nx (some (.map [] 0)) fun M' => fN (Nat.succ nx) fun n => K (.map nx) M' n
theorem mkmX_ok (h : Sim E ρ G F M nx w) {K : AV → T → Nat → Bool} (hk : mkmX M nx K = true) {t : TypeId} {kt e : TypeId} (ht : P.underlying t = some (.map kt e)) {hint : Option Value} (hh : ∀ v, hint = some v → ∃ k n, v = .int k n) :
    ∃ v M' nx' ρ' w' x, ρ.Le ρ' ∧ Sim E ρ' G F M' nx' w' ∧ K v M' nx' = true ∧ den E ρ' v = some x ∧ (Instr.makeMap t hint).run P w = .ok x w' := by
  obtain ⟨M', k1, k2, k3⟩ := T.set_ok _ _ _ _ _ hk
  rw [fN_eq] at k1
  have hn := h.fresh nx (Nat.le_refl _)
  refine ⟨_, M', _, ρ.set nx ⟨w.heap.size, 0⟩, w.alloc (.map #[] 0), Value.map (some w.heap.size), Ren.le_set _ hn, h.alloc (o := .map [] 0) (ob := .map #[] 0) hn (Nat.le_succ _) (Nat.lt_succ_self _) (cap := 0) ⟨[], rfl, rfl⟩ k2 k3, k1, by simp [den, Ren.set_self], ?_⟩
  rcases hint with _ | v
  · simp [Instr.makeMap, newObj, Sem.run]
  · obtain ⟨k, n, rfl⟩ := hh v rfl
    simp [Instr.makeMap, run_underlying ht, asInt, asIntOf, newObj, Sem.run]
noncomputable def muX (d : Nat) (et : ET) (m k v : AV) (M : T) (K : T → Bool) : Bool :=
  shpX d et k (asMap m false fun i => mapOf M i fun es cl => findX d et k es
    (app es [(k, v, cl)] fun es' => fN (Nat.succ cl) fun cl' => T.set fuelT M i (some (.map es' cl')) K)
    fun j e => must (sbX e.1 k) (upd es j [(k, v, e.2.2)] fun es' => T.set fuelT M i (some (.map es' cl)) K))
theorem muX_ok (h : Sim E ρ G F M nx w) {d : Nat} {et : ET} {m k v : AV} {K : T → Bool} {x y z : Value} {t kt e : TypeId} (hd : d ≤ 10000) (ht : P.underlying t = some (.map kt e)) (hc : chkET P d et kt = true) (hm : den E ρ m = some x) (hk : den E ρ k = some y) (hv : den E ρ v = some z)
    (hg : muX d et m k v M K = true) : ∃ M' w', Sim E ρ G F M' nx w' ∧ K M' = true ∧ (Instr.mapUpdate t x y z).run P w = .ok () w' := by
  obtain ⟨g1, g2⟩ := shpX_ok d hc hk hg
  rcases asMap_ok g1 with ⟨_, g3⟩ | ⟨i, rfl, g3⟩
  · cases g3
  obtain ⟨es, cl, hi, g4⟩ := mapOf_ok g3
  obtain ⟨f, ms, f1, f2, f3⟩ := h.map hi
  simp only [den, f1] at hm
  cases hm
  rcases find_run hd hc hk f2 g4 with ⟨q1, q2⟩ | ⟨j, e', y', q1, q2, q3, q4⟩
  · rw [app_eq, fN_eq] at q1
    obtain ⟨M', k1, k2, k3⟩ := T.set_ok _ _ _ _ _ q1
    refine ⟨M', _, h.mapTurn hi f1 (denE_app f2 hk hv) k2 k3, k1, ?_⟩
    simp [Instr.mapUpdate, run_underlying ht, MapKept.run_getObj_map f3, g2 _ 10000 w hd, q2, MapKept.run_setObj_map _ f3]
  · obtain ⟨hs, q5⟩ := must_ok q2
    obtain ⟨q6, hle⟩ := upd_ok q5
    obtain ⟨M', k1, k2, k3⟩ := T.set_ok _ _ _ _ _ q6
    obtain ⟨xk, yv, r1, r2, r3⟩ := denE_at f2 q1
    have hset : es.take j ++ [(k, v, e'.2.2)] ++ es.drop (j + [(k, v, e'.2.2)].length) = es.set j (k, v, e'.2.2) := by
      simp at hle
      rw [List.set_eq_take_append_cons_drop, if_pos (by omega)]
      simp
    rw [hset] at k2
    refine ⟨M', _, h.mapTurn hi f1 (denE_set (i := j) f2 hk hv) k2 k3, k1, ?_⟩
    have hm : (ms.toArray.modify j fun e => { e with key := y, val := z }) = (ms.set j ⟨y, z, e'.2.2⟩).toArray := by
      apply Array.ext'
      simp only [Array.toList_modify, List.toList_toArray]
      refine List.ext_getElem? fun q => ?_
      have hlt := (List.getElem?_eq_some_iff.1 r3).1
      by_cases hq : j = q
      · subst hq
        rw [List.getElem?_modify_eq, r3, List.getElem?_set_self hlt]
        rfl
      · rw [List.getElem?_modify_ne _ _ hq, List.getElem?_set_ne hq]
    have hstay : (Instr.keyThatStays (((ms.toArray[j]?).map (·.key)).getD y) y).run P w = .ok y w := by
      simp [r3, Instr.keyThatStays, sbX_ok hs r1 hk]
    simp only [Instr.mapUpdate, Sem.run_bind, run_underlying ht, Result.andThen_ok, MapKept.run_getObj_map f3, g2 _ 10000 w hd, q4, hstay, MapKept.run_setObj_map _ f3]
    rw [hm]
noncomputable def delX (d : Nat) (et : ET) (m k : AV) (M : T) (K : T → Bool) : Bool :=
  shpX d et k (asMap m (K M) fun i => mapOf M i fun es cl => findX d et k es (T.set fuelT M i (some (.map es cl)) K) fun j _ => ers es j fun es' => T.set fuelT M i (some (.map es' cl)) K)
theorem delX_ok (h : Sim E ρ G F M nx w) {d : Nat} {et : ET} {m k : AV} {K : T → Bool} {x y : Value} {t t2 kt e ty : TypeId} (hd : d ≤ 10000) (ht : P.underlying t = some (.map kt e)) (hc : chkET P d et kt = true) (hm : den E ρ m = some x) (hk : den E ρ k = some y)
    (hg : delX d et m k M K = true) : ∃ M' w', Sim E ρ G F M' nx w' ∧ K M' = true ∧ (Builtin.delete_ #[t, t2] ty #[x, y]).run P w = .ok (.tuple #[]) w' := by
  obtain ⟨g1, g2⟩ := shpX_ok d hc hk hg
  rcases asMap_ok g1 with ⟨rfl, g3⟩ | ⟨i, rfl, g3⟩
  · cases hm
    exact ⟨M, w, h, g3, by simp [Builtin.delete_, run_underlying ht, g2 _ 10000 w hd]⟩
  obtain ⟨es, cl, hi, g4⟩ := mapOf_ok g3
  obtain ⟨f, ms, f1, f2, f3⟩ := h.map hi
  simp only [den, f1] at hm
  cases hm
  rcases find_run hd hc hk f2 g4 with ⟨q1, q2⟩ | ⟨j, e', y', q1, q2, q3, q4⟩
  · obtain ⟨M', k1, k2, k3⟩ := T.set_ok _ _ _ _ _ q1
    exact ⟨M', _, h.mapTurn hi f1 f2 k2 k3, k1, by simp [Builtin.delete_, run_underlying ht, MapKept.run_getObj_map f3, g2 _ 10000 w hd, q2, MapKept.run_setObj_map _ f3]⟩
  · obtain ⟨q5, hlt⟩ := ers_ok q2
    obtain ⟨M', k1, k2, k3⟩ := T.set_ok _ _ _ _ _ q5
    refine ⟨M', _, h.mapTurn hi f1 (denE_erase (i := j) f2) k2 k3, k1, ?_⟩
    have hm : ms.toArray.eraseIdxIfInBounds j = (ms.eraseIdx j).toArray := by
      have hl := denE_len f2
      rw [Array.eraseIdxIfInBounds, dif_pos (by simp; omega)]
      simp
    simp [Builtin.delete_, run_underlying ht, MapKept.run_getObj_map f3, g2 _ 10000 w hd, q4, MapKept.run_setObj_map _ f3, hm]
end
end Go.Sy
