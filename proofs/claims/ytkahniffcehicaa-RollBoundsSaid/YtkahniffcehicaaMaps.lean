/- Maps of the call's own: keys of one plain kind, values as they lie. No condition: plain lemmas. -/
import Derived.Test.YtkahniffcehicaaBuil
import Derived.MapKept
namespace Go.Eng
open Go Go.RowKit

/-- How a map's keys are found: what a key looks like, that it is a key, and that two are found equal just if they are. -/
structure KeyLaw (P : Program) (kt : TypeId) {κ : Type} [DecidableEq κ] (ok : κ → Prop) (enc : κ → Value) : Prop where
  check : ∀ k, ok k → ∀ (e : Bool) (w : World), (Instr.checkKey e 10000 kt (enc k)).run P w = .ok () w
  kind : ∃ d, P.underlying kt = some d ∧ ((∀ k k', ok k → ok k' → Instr.sameNow d (enc k) (enc k') = some (decide (k = k'))) ∨
    ((∀ k k', ok k → ok k' → Instr.sameNow d (enc k) (enc k') = none) ∧ ∀ k k', ok k → ok k' → ∀ w, (Op.equal kt (enc k) (enc k')).run P w = .ok (decide (k = k')) w))
  bits : ∀ k, ok k → Instr.sameBits 10000 (enc k) (enc k) = true

abbrev AMap (κ : Type) := List (κ × Value)
def AMap.at_ {κ : Type} [DecidableEq κ] (m : AMap κ) (k : κ) : Option Value := match m with
  | [] => none
  | p :: m => if k = p.1 then some p.2 else AMap.at_ m k
def AMap.put {κ : Type} [DecidableEq κ] (m : AMap κ) (k : κ) (v : Value) : AMap κ := match m with
  | [] => [(k, v)]
  | p :: m => if k = p.1 then (k, v) :: m else p :: AMap.put m k v
/-- Where a key stands. -/
def AMap.ix {κ : Type} [DecidableEq κ] (k : κ) : AMap κ → Nat → Option (Nat × Value)
  | [], _ => none
  | p :: m, i => if k = p.1 then some (i, p.2) else AMap.ix k m (i + 1)

/-- The entries of a map object. -/
structure MapO {κ : Type} (ok : κ → Prop) (enc : κ → Value) (m : AMap κ) (es : Array MapEntry) : Prop where
  ents : es.toList.map (fun e => (e.key, e.val)) = m.map (fun p => (enc p.1, p.2))
  keys : ∀ p ∈ m, ok p.1
def MapC {κ : Type} (ok : κ → Prop) (enc : κ → Value) (m : AMap κ) (b : Nat) (c : Chunk) : Prop := ∃ es clock, c = [(b, .map es clock)] ∧ MapO ok enc m es

section
variable {P : Program} {Q : Exit → Act → World → Prop} {K : Act → World → Prop} {a : Act} {w : World} {dst : Option Tmp} {ty : TypeId} {pos : String} {af : Array Edge} {g : Option (Nat × Bool)} {x y z : Operand} {G : GS} {F H : List Chunk}
variable {κ : Type} [DecidableEq κ] {okk : κ → Prop} {enc : κ → Value} {kt : TypeId} {m : AMap κ}

theorem AMap.ix_none (k : κ) : ∀ (m : AMap κ) (i : Nat), AMap.ix k m i = none → m.at_ k = none ∧ ∀ v, m.put k v = m ++ [(k, v)]
  | [], _, _ => ⟨rfl, fun _ => rfl⟩
  | p :: m, i, h => by
    by_cases e : k = p.1
    · simp [AMap.ix, e] at h
    · simp only [AMap.ix, e, if_false] at h
      obtain ⟨h1, h2⟩ := AMap.ix_none k m (i + 1) h
      exact ⟨by simp [AMap.at_, e, h1], fun v => by simp [AMap.put, e, h2]⟩
theorem AMap.ix_some (k : κ) : ∀ (m : AMap κ) (i j : Nat) (v : Value), AMap.ix k m i = some (j, v) → m.at_ k = some v ∧ i ≤ j ∧ (∃ u, m[j - i]? = some (k, u)) ∧ ∀ v', m.put k v' = m.set (j - i) (k, v')
  | [], _, _, _, h => by simp [AMap.ix] at h
  | p :: m, i, j, v, h => by
    by_cases e : k = p.1
    · simp only [AMap.ix, e, if_true, Option.some.injEq, Prod.mk.injEq] at h
      obtain ⟨rfl, rfl⟩ := h
      refine ⟨by simp [AMap.at_, e], Nat.le_refl _, ⟨p.2, by simp [e]⟩, fun v' => by simp [AMap.put, e]⟩
    · simp only [AMap.ix, e, if_false] at h
      obtain ⟨h1, h2, ⟨u, h3⟩, h4⟩ := AMap.ix_some k m (i + 1) j v h
      obtain ⟨n, rfl⟩ : ∃ n, j = i + 1 + n := ⟨j - (i + 1), by omega⟩
      rw [show i + 1 + n - (i + 1) = n by omega] at h3 h4
      refine ⟨by simp [AMap.at_, e, h1], by omega, ⟨u, ?_⟩, fun v' => ?_⟩
      · rw [show i + 1 + n - i = n + 1 by omega]; simpa using h3
      · rw [show i + 1 + n - i = n + 1 by omega]; simp [AMap.put, e, h4]

theorem run_find (K0 : KeyLaw P kt okk enc) {k : κ} (hk : okk k) : ∀ (es : List MapEntry) (m : AMap κ), es.map (fun e => (e.key, e.val)) = m.map (fun p => (enc p.1, p.2)) → (∀ p ∈ m, okk p.1) → (Instr.findKey kt (enc k) es).run P w = .ok (AMap.ix k m 0) w := by
  obtain ⟨d, hd, hor⟩ := K0.kind
  intro es m he hm
  rcases hor with hnow | ⟨hnone, heq⟩
  · have key : ∀ (es : List MapEntry) (m : AMap κ) (i : Nat), es.map (fun e => (e.key, e.val)) = m.map (fun p => (enc p.1, p.2)) → (∀ p ∈ m, okk p.1) → Instr.findNow d (enc k) es i = some (AMap.ix k m i) := by
      intro es
      induction es with
      | nil =>
        intro m i he hm
        cases m with
        | nil => rfl
        | cons p m => simp at he
      | cons e es ih =>
        intro m i he hm
        cases m with
        | nil => simp at he
        | cons p m =>
          simp only [List.map_cons, List.cons.injEq, Prod.mk.injEq] at he
          obtain ⟨⟨h1, h2⟩, h3⟩ := he
          have hs := hnow k p.1 hk (hm p (by simp))
          simp only [Instr.findNow, h1, hs, AMap.ix, h2]
          by_cases e : k = p.1
          · simp [e]
          · simp only [e, decide_false, if_false]
            exact ih m (i + 1) h3 fun q hq => hm q (by simp [hq])
    simp [Instr.findKey, run_underlying hd, key es m 0 he hm]
  · have key : ∀ (es : List MapEntry) (m : AMap κ) (i : Nat), es.map (fun e => (e.key, e.val)) = m.map (fun p => (enc p.1, p.2)) → (∀ p ∈ m, okk p.1) → (Instr.findAsking kt (enc k) es i).run P w = .ok (AMap.ix k m i) w := by
      intro es
      induction es with
      | nil =>
        intro m i he hm
        cases m with
        | nil => rfl
        | cons p m => simp at he
      | cons e es ih =>
        intro m i he hm
        cases m with
        | nil => simp at he
        | cons p m =>
          simp only [List.map_cons, List.cons.injEq, Prod.mk.injEq] at he
          obtain ⟨⟨h1, h2⟩, h3⟩ := he
          have hs := heq k p.1 hk (hm p (by simp)) w
          simp only [Instr.findAsking, h1, Sem.run_bind, hs, Result.andThen_ok, AMap.ix, h2]
          by_cases e : k = p.1
          · simp [e]
          · simp only [e, decide_false, if_false, Bool.false_eq_true]
            exact ih m (i + 1) h3 fun q hq => hm q (by simp [hq])
    have hcases : Instr.findNow d (enc k) es 0 = some (AMap.ix k m 0) ∨ Instr.findNow d (enc k) es 0 = none := by
      cases es with
      | nil =>
        cases m with
        | nil => exact .inl rfl
        | cons p m => simp at he
      | cons e es =>
        cases m with
        | nil => simp at he
        | cons p m =>
          simp only [List.map_cons, List.cons.injEq, Prod.mk.injEq] at he
          have hs := hnone k p.1 hk (hm p (by simp))
          exact .inr (by simp [Instr.findNow, he.1.1, hs])
    rcases hcases with h | h
    · simp [Instr.findKey, run_underlying hd, h]
    · simp [Instr.findKey, run_underlying hd, h, key es m 0 he hm]

theorem Holds.mapI {w : World} (h : Holds G w H) (i j : Nat) {c0 : Chunk} {b : Nat} {es : Array MapEntry} {cl : Nat} (hi : H[i]? = some c0) (hj : c0[j]? = some (b, .map es cl)) : w.heap[b]? = some (.map es cl) :=
  h.own (b, .map es cl) (List.mem_flatten.2 ⟨c0, List.mem_of_getElem? hi, List.mem_of_getElem? hj⟩)

/-- A look into a map. -/
def looked (c : Bool) (o : Option Value) (z : Value) : Value := match c, o with
  | true, some v => .tuple #[v, .bool true]
  | true, none => .tuple #[z, .bool false]
  | false, some v => v
  | false, none => z
theorem o_lookup {t e : TypeId} {c : Bool} {b : Nat} {k : κ} {ch : Chunk} {zv : Value} (K0 : KeyLaw P kt okk enc) (ht : P.underlying t = some (.map kt e)) (hz : ∀ w, (zeroValue e).run P w = .ok zv w) (i : Nat) (h : Holds G w H) (hi : H[i]? = some ch) (hm : MapC okk enc m b ch)
    (hx : a.eval x = .map (some b)) (hy : a.eval y = enc k) (hk : okk k) (k' : K (a.put dst (looked c (m.at_ k) zv)) w) : Oper.wp P ⟨dst, .lookup t x y c, ty, pos, af, g⟩ a w K Q := by
  obtain ⟨es, cl, rfl, ho⟩ := hm
  have hb := h.mapI i 0 hi rfl
  refine o_val ?_ k'
  have hf := run_find (w := w) K0 hk es.toList m ho.ents ho.keys
  rcases hix : AMap.ix k m 0 with _ | ⟨j, v⟩
  · have := (AMap.ix_none k m 0 hix).1
    rw [hix] at hf
    cases c <;> simp [execOp, Instr.lookup, hx, hy, run_underlying ht, MapKept.run_getObj_map hb, K0.check k hk, hf, hz, this, looked]
  · have := (AMap.ix_some k m 0 j v hix).1
    rw [hix] at hf
    cases c <;> simp [execOp, Instr.lookup, hx, hy, run_underlying ht, MapKept.run_getObj_map hb, K0.check k hk, hf, this, looked]
theorem o_lookupNil {t e : TypeId} {c : Bool} {k : κ} {zv : Value} (K0 : KeyLaw P kt okk enc) (ht : P.underlying t = some (.map kt e)) (hz : ∀ w, (zeroValue e).run P w = .ok zv w)
    (hx : a.eval x = .map none) (hy : a.eval y = enc k) (hk : okk k) (k' : K (a.put dst (looked c none zv)) w) : Oper.wp P ⟨dst, .lookup t x y c, ty, pos, af, g⟩ a w K Q := by
  refine o_val ?_ k'
  have hf := run_find (w := w) K0 hk [] [] rfl (by simp)
  cases c <;> simp [execOp, Instr.lookup, hx, hy, run_underlying ht, K0.check k hk, hf, hz, AMap.ix, looked]
theorem o_makeMap {t : TypeId} (k : K (a.put dst (.map (some w.heap.size))) (w.alloc (.map #[] 0))) : Oper.wp P ⟨dst, .makeMap t none, ty, pos, af, g⟩ a w K Q := by
  refine o_val ?_ k
  simp [execOp, Instr.makeMap, newObj, Sem.run]
omit [DecidableEq κ] in
theorem MapC.new (ok : κ → Prop) (enc : κ → Value) (b : Nat) : MapC ok enc [] b [(b, .map #[] 0)] := ⟨#[], 0, rfl, by simp, by simp⟩
theorem o_mapUpdate {t e : TypeId} {b : Nat} {k : κ} {v : Value} {ch : Chunk} (K0 : KeyLaw P kt okk enc) (ht : P.underlying t = some (.map kt e)) (h : Holds G w (ch :: F)) (hm : MapC okk enc m b ch)
    (hx : a.eval x = .map (some b)) (hy : a.eval y = enc k) (hv : a.eval z = v) (hk : okk k) (k' : ∀ w' ch', Holds G w' (ch' :: F) → MapC okk enc (m.put k v) b ch' → K (a.put dst undef) w') : Oper.wp P ⟨dst, .mapUpdate t x y z, ty, pos, af, g⟩ a w K Q := by
  obtain ⟨es, cl, rfl, ho⟩ := hm
  have hb := h.mapI 0 0 rfl rfl
  have hlt := lt_of_heap hb
  have hf := run_find (w := w) K0 hk es.toList m ho.ents ho.keys
  have hturn : ∀ o', Holds G { w with heap := w.heap.setIfInBounds b o' } ([(b, o')] :: F) := fun o' =>
    h.turn rfl rfl rfl rfl (fun b' _ hne => by
      have : b ≠ b' := fun e => hne (by simp [e])
      simp [this]) (fun p hp => by
      simp only [List.mem_singleton] at hp
      subst hp
      simp [hlt])
  rcases hix : AMap.ix k m 0 with _ | ⟨j, u⟩
  · have hput := (AMap.ix_none k m 0 hix).2 v
    rw [hix] at hf
    refine o_skip (w' := { w with heap := w.heap.setIfInBounds b (.map (es.push { key := enc k, val := v, born := cl }) (cl + 1)) }) ?_ (k' _ _ (hturn _) ⟨_, _, rfl, ?_, ?_⟩)
    · simp [execOp, Instr.mapUpdate, hx, hy, hv, run_underlying ht, MapKept.run_getObj_map hb, K0.check k hk, hf, MapKept.run_setObj_map _ hb]
    · rw [hput]; simp [ho.ents]
    · rw [hput]
      intro p hp
      rcases List.mem_append.1 hp with h1 | h1
      · exact ho.keys p h1
      · simp only [List.mem_singleton] at h1; subst h1; exact hk
  · obtain ⟨h1, _, ⟨u', h3⟩, hput⟩ := AMap.ix_some k m 0 j u hix
    have hput := hput v
    rw [hix] at hf
    rw [Nat.sub_zero] at h3 hput
    have he : (es.toList.map (fun e => (e.key, e.val)))[j]? = some (enc k, u') := by rw [ho.ents]; simp [h3]
    rw [List.getElem?_map, Option.map_eq_some_iff] at he
    obtain ⟨e0, he0, he1⟩ := he
    have hj : es[j]? = some e0 := by simpa using he0
    have hkey : e0.key = enc k := by injection he1
    have hstay : (Instr.keyThatStays (((es[j]?).map (·.key)).getD (enc k)) (enc k)).run P w = .ok (enc k) w := by
      rw [hj]
      simp [Instr.keyThatStays, hkey, K0.bits k hk]
    refine o_skip (w' := { w with heap := w.heap.setIfInBounds b (.map (es.modify j fun e => { e with key := enc k, val := v }) cl) }) ?_ (k' _ _ (hturn _) ⟨_, _, rfl, ?_, ?_⟩)
    · simp only [execOp, Instr.mapUpdate, hx, hy, hv, Sem.run_bind, run_underlying ht, Result.andThen_ok, MapKept.run_getObj_map hb, K0.check k hk, hf, hstay, MapKept.run_setObj_map _ hb]
      rfl
    · rw [hput, List.map_set, ← ho.ents]
      apply List.ext_getElem?
      intro i
      simp only [Array.getElem?_toList, Array.getElem?_modify, List.getElem?_map, List.getElem?_set]
      by_cases e : j = i
      · subst e
        have : j < es.size := by
          rcases Nat.lt_or_ge j es.size with h | h
          · exact h
          · rw [Array.getElem?_eq_none h] at hj; cases hj
        simp [hj, this]
      · simp [e]
    · rw [hput]
      intro p hp
      rcases List.mem_or_eq_of_mem_set hp with h | h
      · exact ho.keys p h
      · subst h; exact hk
end
end Go.Eng
