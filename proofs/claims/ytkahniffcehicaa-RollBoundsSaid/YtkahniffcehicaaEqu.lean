/- Equality of structs and arrays of plain cells, as a Bool. No condition: plain lemmas. -/
import Derived.Test.YtkahniffcehicaaMaps
import Derived.Laws.StructEq
namespace Go.Eng
open Go Go.RowKit

def partV (P : Program) (t : TypeId) (cs : Array Value) (off : Nat) : Option Value :=
  match isAg P t with
  | some true => (szOf P t).map fun n => .agg (cs.extract off (off + n))
  | some false => cs[off]?
  | none => none
def allB : List (Option Bool) → Option Bool
  | [] => some true
  | [x] => x
  | x :: r => match x, allB r with
    | some a, some b => some (a && b)
    | _, _ => none
/-- The Bool of an equality, where all of it is plain. -/
def eqV (P : Program) : Nat → TypeId → Value → Value → Option Bool
  | 0, _, _, _ => none
  | d + 1, t, x, y => match P.underlying t, x, y with
    | some (.int _), .int k m, .int k' n => bif decide (k = k') then some (decide (m = n)) else none
    | some .bool, .bool b, .bool c => some (b == c)
    | some .string, .string b, .string c => some (decide (b.data.toList = c.data.toList))
    | some (.struct fs), .agg xs, .agg ys => bif P.stoodInHeld t then none else
      allB ((fs.toList.filter fun f => f.name != "_").map fun f => match partV P f.type xs f.offset, partV P f.type ys f.offset with
        | some u, some v => eqV P d f.type u v
        | _, _ => none)
    | some (.array n e), .agg xs, .agg ys => match szOf P e with
      | some m => allB ((List.range' 0 n).map fun i => match partV P e xs (i * m), partV P e ys (i * m) with
        | some u, some v => eqV P d e u v
        | _, _ => none)
      | none => none
    | _, _, _ => none

section
variable {P : Program} {w : World}
theorem run_partV {t : TypeId} {cs : Array Value} {off : Nat} {v : Value} (h : partV P t cs off = some v) : (part t cs off).run P w = .ok v w := by
  unfold partV at h
  rcases hi : isAg P t with _ | b
  · simp [hi] at h
  · cases b with
    | true =>
      rcases hs : szOf P t with _ | n
      · simp [hi, hs] at h
      · simp only [hi, hs, Option.map_some, Option.some.injEq] at h
        subst h
        simp [part, run_isAgg hi, run_sizeOf hs]
    | false =>
      simp only [hi] at h
      simp [part, run_isAgg hi, h]
theorem allB_cons {x : Option Bool} {r : List (Option Bool)} {z : Bool} (h : allB (x :: r) = some z) : ∃ b, x = some b ∧ ((b = false ∧ z = false) ∨ (b = true ∧ allB r = some z)) := by
  cases r with
  | nil =>
    simp only [allB] at h
    subst h
    cases z
    · exact ⟨false, rfl, .inl ⟨rfl, rfl⟩⟩
    · exact ⟨true, rfl, .inr ⟨rfl, rfl⟩⟩
  | cons y r =>
    simp only [allB] at h
    rcases x with _ | b
    · simp at h
    · rcases hr : allB (y :: r) with _ | c
      · simp [hr] at h
      · simp only [hr, Option.some.injEq] at h
        refine ⟨b, rfl, ?_⟩
        cases b
        · exact .inl ⟨rfl, by simpa using h.symm⟩
        · exact .inr ⟨rfl, by simpa using h⟩
theorem eqV_run : ∀ (d : Nat) (t : TypeId) (x y : Value) (z : Bool) (w : World), eqV P d t x y = some z → (Op.equalIn d t x y).run P w = .ok z w := by
  intro d
  induction d with
  | zero => intro t x y z w h; simp [eqV] at h
  | succ d ih =>
    intro t x y z w h
    unfold eqV at h
    split at h
    · rename_i q k m k' n hu
      by_cases e : k = k'
      · simp only [e, decide_true, cond_true, Option.some.injEq] at h
        subst h; subst e
        simp [Op.equalIn, run_underlying hu, beq_dec]
      · simp [e] at h
    · rename_i b c hu
      simp only [Option.some.injEq] at h
      subst h
      simp [Op.equalIn, run_underlying hu]
    · rename_i b c hu
      simp only [Option.some.injEq] at h
      subst h
      simp only [Op.equalIn, Sem.run_bind, run_underlying hu, Result.andThen_ok, Sem.run_pure]
      congr 1
      rw [beq_toListBytes, ByteArray.toList_eq, ByteArray.toList_eq, Bool.eq_iff_iff]
      simp
    · rename_i fs xs ys hu
      cases hp : P.stoodInHeld t with
      | true => simp [hp] at h
      | false =>
        simp only [hp, cond_false] at h
        simp only [Op.equalIn, Sem.run_bind, run_underlying hu, Result.andThen_ok, run_program, hp, Bool.false_eq_true, if_false]
        rw [← Array.forIn_toList]
        generalize fs.toList = l at h
        clear hu
        induction l generalizing z with
        | nil =>
          simp only [List.filter_nil, List.map_nil, allB, Option.some.injEq] at h
          subst h
          simp
        | cons f l ihl =>
          simp only [List.forIn_cons, Sem.run_bind]
          by_cases hn : f.name = "_"
          · simp only [List.filter_cons, hn, bne_self_eq_false, Bool.false_eq_true, if_false] at h
            have := ihl z h
            simp [hn] at this ⊢
            exact this
          · rw [List.filter_cons, if_pos (by simp [hn]), List.map_cons] at h
            obtain ⟨b, hb, hor⟩ := allB_cons h
            rcases h1 : partV P f.type xs f.offset with _ | u
            · simp [h1] at hb
            · rcases h2 : partV P f.type ys f.offset with _ | v
              · simp [h1, h2] at hb
              · simp only [h1, h2] at hb
                have hr := ih f.type u v b w hb
                rcases hor with ⟨rfl, rfl⟩ | ⟨rfl, hl⟩
                · simp [hn, run_partV h1, run_partV h2, hr]
                · have := ihl z hl
                  simp [hn, run_partV h1, run_partV h2, hr] at this ⊢
                  exact this
    · rename_i n e xs ys hu
      rcases hm : szOf P e with _ | m
      · simp [hm] at h
      · simp only [hm] at h
        simp only [Op.equalIn, Sem.run_bind, run_underlying hu, Result.andThen_ok, run_sizeOf hm]
        rw [Std.Legacy.Range.forIn_eq_forIn_range']
        simp only [Std.Legacy.Range.size, Nat.sub_zero, Nat.add_sub_cancel, Nat.div_one]
        generalize List.range' 0 n = l at h ⊢
        clear hu
        induction l generalizing z with
        | nil =>
          simp only [List.map_nil, allB, Option.some.injEq] at h
          subst h
          simp
        | cons i l ihl =>
          simp only [List.forIn_cons, Sem.run_bind]
          rw [List.map_cons] at h
          obtain ⟨b, hb, hor⟩ := allB_cons h
          rcases h1 : partV P e xs (i * m) with _ | u
          · simp [h1] at hb
          · rcases h2 : partV P e ys (i * m) with _ | v
            · simp [h1, h2] at hb
            · simp only [h1, h2] at hb
              have hr := ih e u v b w hb
              rcases hor with ⟨rfl, rfl⟩ | ⟨rfl, hl⟩
              · simp [run_partV h1, run_partV h2, hr]
              · have := ihl z hl
                simp [run_partV h1, run_partV h2, hr] at this ⊢
                exact this
    · cases h
end
end Go.Eng
namespace Go.Eng
open Go Go.RowKit
section
variable {P : Program} {ops : Array Oper} {Q : Exit → Act → World → Prop} {K : Act → World → Prop} {a : Act} {w : World} {rest : List Oper} {dst : Option Tmp} {ty : TypeId} {pos : String} {af : Array Edge} {g : Option (Nat × Bool)} {x y z : Operand} {G : GS} {F H : List Chunk} {N : Nat} {L : List (Nat × Value)} {d : Nat}
theorem o_eqlA {t t2 : TypeId} {us vs : Array Value} {b : Bool} (hx : a.eval x = .agg us) (hy : a.eval y = .agg vs) (hg : P.eqGuardType P.depth t = false) (h : eqV P 10000 t (.agg us) (.agg vs) = some b) (k : K (a.put dst (.bool b)) w) :
    Oper.wp P ⟨dst, .binOp .eql t x y t2, ty, pos, af, g⟩ a w K Q := by
  refine o_bin hx hy ?_ k
  simp only [Sem.run_bind, run_eqGuard_agg w .eql t x y us vs hg, Result.andThen_ok, run_eql_struct, eqV_run 10000 t _ _ b w h]
theorem o_neqA {t t2 : TypeId} {us vs : Array Value} {b : Bool} (hx : a.eval x = .agg us) (hy : a.eval y = .agg vs) (hg : P.eqGuardType P.depth t = false) (h : eqV P 10000 t (.agg us) (.agg vs) = some b) (k : K (a.put dst (.bool (!b))) w) :
    Oper.wp P ⟨dst, .binOp .neq t x y t2, ty, pos, af, g⟩ a w K Q := by
  refine o_bin hx hy ?_ k
  simp only [Sem.run_bind, run_eqGuard_agg w .neq t x y us vs hg, Result.andThen_ok, run_neq_struct, eqV_run 10000 t _ _ b w h]

/-- A call whose walk goes on in place: behind it the caller's. -/
theorem q_inline {f : Nat} {xs : List Operand} {vs : List Value} {ta : Array TypeId} (s : SF N a L) (hv : opvs L xs = some vs) (hf : okF P f = some (false, false))
    (hc : Calls P f vs.toArray w (fun e w' => ∃ v, e = .returned v ∧ wpList P ops Q rest (a.put (some d) v) w')) :
    wpList P ops Q (⟨some d, .call { callee := .value (.func f), args := xs.toArray, argTypes := ta }, ty, pos, af, none⟩ :: rest) a w :=
  wl rfl (o_call s hv hf hc (fun _ _ h => h))

/-- An operation of a region behind its split, under a guard that is known. -/
theorem q_guard_t {o ok : Oper} {k t : Nat} {want : Bool} (s : SF N a L) (hg : o.guard = some (k, want)) (hk : ops[k]? = some ok) (hd : ok.dst = some t) (hN : Nat.blt t N = true) (hv : lk L t = some (.bool want))
    (h : wpList P ops Q ({ o with guard := none } :: rest) a w) : wpList P ops Q (o :: rest) a w := by
  have hlt : t < a.tmps.size := by rw [s.size]; simpa [Nat.blt_eq] using hN
  have e : a.tmps[t]? = some (.bool want) := by
    have := s.at_ t _ hv
    rw [Array.getElem?_eq_getElem hlt]
    simp only [Array.getD, hlt, dif_pos, Array.getInternal_eq_getElem] at this
    rw [this]
  have hy : yielded ops a.tmps k = some want := by simp [yielded, hk, hd, e]
  have hw : Region.wanted o (yielded ops a.tmps) = true := by simp [Region.wanted, hg, hy]
  unfold wpList at h ⊢
  rw [if_pos hw]
  rw [if_pos (by simp [Region.wanted])] at h
  exact h
theorem q_guard_f {o ok : Oper} {k t : Nat} {want b : Bool} (s : SF N a L) (hg : o.guard = some (k, want)) (hk : ops[k]? = some ok) (hd : ok.dst = some t) (hN : Nat.blt t N = true) (hv : lk L t = some (.bool b)) (hb : b ≠ want)
    (h : ∀ a', SF N a' L → wpList P ops Q rest a' w) (hdst : ∀ d, o.dst = some d → lk L d = none) : wpList P ops Q (o :: rest) a w := by
  have hlt : t < a.tmps.size := by rw [s.size]; simpa [Nat.blt_eq] using hN
  have e : a.tmps[t]? = some (.bool b) := by
    have := s.at_ t _ hv
    rw [Array.getElem?_eq_getElem hlt]
    simp only [Array.getD, hlt, dif_pos, Array.getInternal_eq_getElem] at this
    rw [this]
  have hy : yielded ops a.tmps k = some b := by simp [yielded, hk, hd, e]
  have hw : Region.wanted o (yielded ops a.tmps) = false := by simp [Region.wanted, hg, hy, hb]
  unfold wpList
  rw [if_neg (by rw [hw]; simp)]
  refine h _ ?_
  rcases hdd : o.dst with _ | d
  · exact s
  · refine ⟨by simpa [Act.put] using s.size, s.defers, fun t' u hu => ?_⟩
    have hne : t' ≠ d := fun e => by rw [e, hdst d hdd] at hu; cases hu
    rw [getD_put hne]
    exact s.at_ t' u hu
theorem o_append {E size bytes n cap : Nat} {ao : Option Addr} {xs : List Value} {c : Chunk} {t : TypeId} {b o m k0 : Nat} {news : List Value} (r : Row E size ao n cap xs c) (h : Holds G w (c :: F))
    (hx : a.eval x = .slice ao n cap) (hy : a.eval y = .slice (some ⟨b, o, none⟩) m k0) (ht : P.underlying t = some (.slice E)) (he : elemOk P E size bytes = true)
    (hl : news.length = m * size) (hnews : ∀ j u, news[j]? = some u → w.cell? ⟨b, o + j, none⟩ = some u) (h1 : news.all Value.oneCell' = true) (h63 : n + m ≤ 9223372036854775807) (hbytes : (n + m) * bytes ≤ 140737488355328)
    (k : ∀ w' ao' cap' c', Row E size ao' (n + m) cap' (xs ++ news) c' → Holds G w' (c' :: F) → K (a.put dst (.slice ao' (n + m) cap')) w') :
    Oper.wp P ⟨dst, .call { callee := .builtin .append, args := #[x, y], argTypes := #[t, t] }, ty, pos, af, g⟩ a w K Q := by
  obtain ⟨i, z, hi, hz, e1, e2, e3, e4⟩ := elem_parts he
  obtain ⟨ao', cap', c', w', hrun, hr, hh⟩ := run_append (P := P) (ty := ty) r h ht hi hz e1 e2 e4 hl hnews h1 (by unfold maxLen; omega) (by rw [e3]; exact hbytes) (b := b) (o := o) (k := k0)
  refine o_val (v := .slice ao' (n + m) cap') (w' := w') ?_ (k _ _ _ _ hr hh)
  rw [run_builtin]
  simp only [builtin, List.map_toArray, List.map_cons, List.map_nil, hx, hy, Sem.run_bind, hrun]
  rfl
theorem q_makeMap {t : TypeId} (s : SF N a L) (hd : Nat.blt d N = true) (h : Holds G w H)
    (k : ∀ a' w' b, SF N a' ((d, .map (some b)) :: L) → Holds G w' ([(b, .map #[] 0)] :: H) → wpList P ops Q rest a' w') : wpList P ops Q (⟨some d, .makeMap t none, ty, pos, af, none⟩ :: rest) a w :=
  wl rfl (o_makeMap (k _ _ _ (s.put d hd _) (h.alloc _)))
theorem q_mapUpdate {κ : Type} [DecidableEq κ] {okk : κ → Prop} {enc : κ → Value} {kt : TypeId} {m : AMap κ} {t e : TypeId} {b : Nat} {key : κ} {v : Value} {ch : Chunk} (s : SF N a L) (K0 : KeyLaw P kt okk enc) (ht : P.underlying t = some (.map kt e)) (h : Holds G w (ch :: F)) (hm : MapC okk enc m b ch)
    (hx : opv L x = some (.map (some b))) (hy : opv L y = some (enc key)) (hv : opv L z = some v) (hk : okk key) (k' : ∀ a' w' ch', SF N a' L → Holds G w' (ch' :: F) → MapC okk enc (m.put key v) b ch' → wpList P ops Q rest a' w') : wpList P ops Q (⟨none, .mapUpdate t x y z, ty, pos, af, none⟩ :: rest) a w :=
  wl rfl (o_mapUpdate K0 ht h hm (s.ev hx) (s.ev hy) (s.ev hv) hk (fun w' ch' hh hm' => k' _ w' ch' s hh hm'))
theorem Holds.back {c : Chunk} (i : Nat) (hc : H[i]? = some c) (h : Holds G w (c :: H.eraseIdx i)) : Holds G w H := h.perm (erase_perm H i hc).symm.flatten
theorem Row.addr {E size n cap : Nat} {ao : Option Addr} {xs : List Value} {c : Chunk} (r : Row E size ao n cap xs c) (h : 0 < n) : ao = some ⟨blk ao, ofs ao, none⟩ := by
  rcases r.form with ⟨_, h2, _, _⟩ | ⟨g, cur, rfl, _⟩
  · omega
  · rfl
theorem Row.rowI {E size n cap : Nat} {ao : Option Addr} {xs : List Value} {c : Chunk} (r : Row E size ao n cap xs c) (h : Holds G w H) (i : Nat) (hi : H[i]? = some c) {cs : List Value} {o : Nat} (hd : (xs.drop o).take cs.length = cs) :
    ∀ j v, cs[j]? = some v → w.cell? ⟨blk ao, ofs ao + o + j, none⟩ = some v := by
  intro j v hv
  have hx : xs[o + j]? = some v := by
    rw [← hd] at hv
    have hlt : j < cs.length := by
      rw [← hd]
      exact (List.getElem?_eq_some_iff.1 hv).1
    rw [List.getElem?_take_of_lt hlt] at hv
    simpa using hv
  rcases r.form with ⟨_, h2, _, _⟩ | ⟨g, cur, rfl, rfl, h4, h5, h6, h7⟩
  · have h1 := r.len
    rw [h2] at h1
    have : xs = [] := List.eq_nil_of_length_eq_zero (by omega)
    rw [this] at hx; cases hx
  · refine h.cellO (c := cur) (T := E) (fz := (0, 0)) (List.mem_flatten.2 ⟨_, List.mem_of_getElem? hi, by simp [blk]⟩) ?_
    rw [← h7] at hx
    have hlt : o + j < n * size := by
      rcases Nat.lt_or_ge (o + j) (n * size) with h8 | h8
      · exact h8
      · rw [List.getElem?_take_eq_none h8] at hx; cases hx
    rw [List.getElem?_take_of_lt hlt] at hx
    simpa [ofs, Nat.add_assoc] using hx
end
end Go.Eng
