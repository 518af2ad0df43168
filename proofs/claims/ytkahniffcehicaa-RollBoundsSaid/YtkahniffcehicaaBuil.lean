/- strings.Builder as a chunk of the call's own; its operations' laws. No condition: plain lemmas. -/
import Derived.Test.YtkahniffcehicaaMore
import Derived.Lib.AppendStr
import Derived.Lib.UnsafeStr
import Derived.Lib.Builder
namespace Go.Eng
open Go Go.RowKit Go.Lib

abbrev u8 (x : UInt8) : Value := .int .u8 x.toNat

/-- A builder (two cells, in a block of element type T) that holds the bytes l. -/
def BuildC (T b : Nat) (l : List UInt8) (c : Chunk) : Prop :=
  ∃ p ao cap cr, (p = .pointer none ∨ p = .pointer (some ⟨b, 0, none⟩)) ∧ Row 5 1 ao l.length cap (l.map u8) cr ∧ (l = [] → ao = none) ∧ c = (b, .cells #[p, .slice ao l.length cap] T (0, 0)) :: cr

theorem BuildC.new (T b : Nat) : BuildC T b [] [(b, .cells #[.pointer none, .slice none 0 0] T (0, 0))] :=
  ⟨_, none, 0, [], .inl rfl, Row.nil 5 1, fun _ => rfl, rfl⟩
theorem Holds.split {G : GS} {w : World} {x : Nat × Obj} {c : Chunk} {F : List Chunk} (h : Holds G w ((x :: c) :: F)) : Holds G w ([x] :: c :: F) := h.perm (by simp)
theorem Holds.join {G : GS} {w : World} {x : Nat × Obj} {c : Chunk} {F : List Chunk} (h : Holds G w ([x] :: c :: F)) : Holds G w ((x :: c) :: F) := h.perm (by simp)
theorem Holds.shapeI {G : GS} {w : World} {H : List Chunk} (h : Holds G w H) (i j : Nat) {c0 : Chunk} {b : Nat} {c : Array Value} {T : TypeId} {fz : Nat × Nat} (hi : H[i]? = some c0) (hj : c0[j]? = some (b, .cells c T fz)) : w.shape? b = some (T, c.size) := by
  have := h.own _ (mem_at i j hi hj)
  simp only at this
  simp [World.shape?, this]

section
variable {P : Program} {ops : Array Oper} {Q : Exit → Act → World → Prop} {K : Act → World → Prop} {a : Act} {w : World} {rest : List Oper} {N d : Nat} {L : List (Nat × Value)} {G : GS} {F : List Chunk}
  {dst : Option Tmp} {ty : TypeId} {pos : String} {af : Array Edge} {g : Option (Nat × Bool)} {x y : Operand}

theorem o_toUnsafe {T U t e n cells b o : Nat} (hx : a.eval x = .pointer (some ⟨b, o, none⟩)) (hT : P.underlying T = some (.pointer t)) (hU : P.underlying U = some .unsafePointer) (hs : szOf P t = some n) (hn : Nat.blt 0 n = true)
    (hsh : w.shape? b = some (e, cells)) (ho : Nat.blt o cells = true) (k : K (a.put dst (.pointer (some ⟨b, o, none⟩))) w) : Oper.wp P ⟨dst, .convert T U x, ty, pos, af, g⟩ a w K Q := by
  refine o_val ?_ k
  unfold szOf at hs
  rcases hi : P.info? t with _ | j
  · simp [hi] at hs
  simp only [hi, Option.map_some, Option.some.injEq] at hs
  rw [Nat.blt_eq] at hn ho
  have := Lib.run_to_unsafe (P := P) w (src := T) (dst := U) ⟨b, o, none⟩ hT hU hi (by omega) hsh ho
  simp [execOp, hx, this]
theorem o_fromUnsafe {T U u e cells b o : Nat} (hx : a.eval x = .pointer (some ⟨b, o, none⟩)) (hT : P.underlying T = some .unsafePointer) (hU : P.underlying U = some (.pointer u)) (hs : (P.info? u).isSome = true)
    (hsh : w.shape? b = some (e, cells)) (hl : liesAt P P.depth e (cells / P.cellsOf e) o u 1 = true) (k : K (a.put dst (.pointer (some ⟨b, o, none⟩))) w) : Oper.wp P ⟨dst, .convert T U x, ty, pos, af, g⟩ a w K Q := by
  refine o_val ?_ k
  obtain ⟨j, hj⟩ := Option.isSome_iff_exists.1 hs
  have := Lib.run_from_unsafe (P := P) w (src := T) (dst := U) ⟨b, o, none⟩ hT hU hj hsh hl
  simp [execOp, hx, this]
theorem o_noEscape {f : Nat} {fn : Func} {v : Value} {ta : Array TypeId} (hx : a.eval x = v) (hf : P.funcs[f]? = some fn) (h1 : (fn.name == "runtime.NumGoroutine") = false) (h2 : fn.body.isNone = true) (h3 : Extern.findNext fn = none) (h4 : Extern.find fn = some Extern.AbiNoEscape.same)
    (k : K (a.put dst v) w) : Oper.wp P ⟨dst, .call { callee := .value (.func f), args := #[x], argTypes := ta }, ty, pos, af, g⟩ a w K Q := by
  refine o_val ?_ k
  have e : a.eval (.func f) = .func (.func f) #[] #[] := rfl
  simp only [execOp, resolve, e, Deferred.ofValue, invoke, Sem.run_bind, Sem.run_pure, Result.andThen_ok, List.map_toArray, List.map_cons, List.map_nil, hx]
  have := run_callFunc_extern (P := P) hf h1 h2 h3 h4 #[v] w
  simp only [Array.append_empty, Array.empty_append]
  rw [this, Lib.run_noEscape]
  rfl
theorem o_pneqSelf {T e t2 n b o : Nat} (hx : a.eval x = .pointer (some ⟨b, o, none⟩)) (hy : a.eval y = .pointer (some ⟨b, o, none⟩)) (hT : P.underlying T = some (.pointer e)) (hs : szOf P e = some n) (hn : Nat.blt 0 n = true)
    (k : K (a.put dst (.bool false)) w) : Oper.wp P ⟨dst, .binOp .neq T x y t2, ty, pos, af, g⟩ a w K Q := by
  refine o_val ?_ k
  rw [Nat.blt_eq] at hn
  have hne : ¬ n = 0 := by omega
  have e : ∀ d, (Op.equalIn (d + 1) T (.pointer (some ⟨b, o, none⟩)) (.pointer (some ⟨b, o, none⟩))).run P w = .ok true w := by
    intro d
    simp [Op.equalIn, run_underlying hT, run_sizeOf hs, hne, sameAddr]
  have e2 : (Op.equal T (.pointer (some ⟨b, o, none⟩)) (.pointer (some ⟨b, o, none⟩))).run P w = .ok true w := e 9999
  simp [execOp, hx, hy, eqGuard, binOp, e2]

/-- A string appended to a row of bytes. -/
theorem run_appendS {E n cap : Nat} {ao : Option Addr} {xs : List Value} {c : Chunk} {l : List UInt8} (r : Row E 1 ao n cap xs c) (h : Holds G w (c :: F)) {t u ty : TypeId} (ht : P.underlying t = some (.slice E)) (hu : P.underlying u = some .string)
    {i : TypeInfo} (hi : P.info? E = some i) (hz : i.zero = some (.int .u8 0)) (hsize : i.size = 1) (hby : i.bytes = 1) (hb : n + l.length ≤ 140737488355328) :
    ∃ ao' cap' c' w', (Builtin.append_ #[t, u] ty #[.slice ao n cap, S l]).run P w = .ok (.slice ao' (n + l.length) cap') w' ∧ Row E 1 ao' (n + l.length) cap' (xs ++ l.map u8) c' ∧ Holds G w' (c' :: F) ∧ (ao' = none ↔ ao = none ∧ l = []) := by
  have hs : ByteArray.size ⟨l.toArray⟩ = l.length := by simp [ByteArray.size]
  have hcells : strCells ⟨l.toArray⟩ = l.map u8 := by simp [strCells]
  obtain ⟨v', w', hrun, hown, hgrow, hnil⟩ := run_append_own_string (P := P) w 0 t u ty E i ht hu hi hz hsize hby (.slice ao n cap) n xs (r.owns h) ⟨l.toArray⟩ (by rw [hs]; unfold maxLen; omega) (by rw [hs]; exact hb) (Nat.zero_le _)
  rw [hs, hcells] at hown
  rw [hs] at hnil
  have hrow : ∀ g, (Value.slice ao n cap).ownBlock = some g → g ∈ c.map (·.1) := by
    intro g hg
    rcases r.form with ⟨rfl, rfl, rfl, rfl⟩ | ⟨g', cur, rfl, rfl, _⟩
    · simp [Value.ownBlock] at hg
    · simp [Value.ownBlock] at hg; subst hg; simp
  rcases hown.2 with ⟨rfl, hz0⟩ | ⟨g, cap', cur, rfl, _, hheap, h2, h3, h4, h5⟩
  · obtain ⟨hv, hm0⟩ := hnil.1 rfl
    injection hv with e1 e2 e3
    subst e1; subst e2; subst e3
    have hl : l = [] := List.eq_nil_of_length_eq_zero hm0
    subst hl
    rcases r.form with ⟨_, _, _, rfl⟩ | ⟨g, cur, hc, _⟩
    · refine ⟨none, 0, [], w', hrun, ⟨hown.1, .inl ⟨rfl, rfl, rfl, rfl⟩⟩, ?_, by simp⟩
      have : ∀ b, b < w.heap.size → w'.heap[b]? = w.heap[b]? := fun b hb => hgrow.block b hb (by simp [Value.ownBlock])
      exact h.turn hgrow.os hgrow.tape hgrow.output rfl (fun b hb _ => this b hb) (fun p hp => by simp at hp)
    · cases hc
  · refine ⟨some ⟨g, 0, none⟩, cap', [(g, .cells cur E (0, 0))], w', hrun, ⟨hown.1, .inr ⟨g, cur, rfl, rfl, h2, h3, h4, h5⟩⟩, ?_, ?_⟩
    · refine h.regrow hgrow hrow hheap ?_
      rcases r.form with ⟨rfl, rfl, rfl, rfl⟩ | ⟨g0, cur0, rfl, rfl, k1, k2, k3, k4⟩
      · by_cases hl0 : l.length = 0
        · have := hnil.2 ⟨rfl, hl0⟩
          cases this
        · have hr := run_append_nil_string (P := P) w t u ty E i (.int .u8 0) ht hu hi hz ⟨l.toArray⟩ (by rw [hs]; omega) (by rw [hs]; omega) (by rw [hby, hs]; omega)
          rw [hr] at hrun
          injection hrun with e1 e2
          injection e1 with e1
          injection e1 with e1
          injection e1 with e1
          exact .inr (by omega)
      · have hg0 : w.heap[g0]? = some (.cells cur0 E (0, 0)) := h.own (g0, .cells cur0 E (0, 0)) (by simp)
        by_cases hroom : n + l.length ≤ cap
        · have hr := run_append_room_string (P := P) w t u ty E i ht hu hi hsize g0 n cap cur0 hg0 ⟨l.toArray⟩ (by rw [hs]; exact hroom) (by rw [hs]; omega)
          rw [hr] at hrun
          injection hrun with e1 e2
          injection e1 with e1
          injection e1 with e1
          injection e1 with e1
          exact .inl (by simp [Value.ownBlock, e1])
        · have hx' : ∀ j v, xs[j]? = some v → w.cell? ((⟨g0, 0, none⟩ : Addr).add j) = some v := (r.owns h).cells (g := g0) rfl
          have hr := run_append_grow_string (P := P) w t u ty E i (.int .u8 0) ht hu hi hz ⟨g0, 0, none⟩ n cap xs (by rw [hsize]; exact r.len) hx' ⟨l.toArray⟩ (by rw [hs]; omega) (by rw [hs]; omega)
            (by rw [hby, hs]; exact growslice_fits (by omega) (by omega))
          rw [hr] at hrun
          injection hrun with e1 e2
          injection e1 with e1
          injection e1 with e1
          injection e1 with e1
          exact .inr (by omega)
    · constructor
      · intro e; cases e
      · rintro ⟨rfl, rfl⟩
        have hz0 : n = 0 ∧ cap = 0 := by
          rcases r.form with ⟨_, h0, h1, _⟩ | ⟨g', cur', hc, _⟩
          · exact ⟨h0, h1⟩
          · cases hc
        obtain ⟨rfl, rfl⟩ := hz0
        have := hnil.2 ⟨rfl, rfl⟩
        cases this
end
end Go.Eng
namespace Go.Eng
open Go Go.RowKit Go.Lib
section
variable {P : Program} {ops : Array Oper} {Q : Exit → Act → World → Prop} {K : Act → World → Prop} {a : Act} {w : World} {rest : List Oper} {N d : Nat} {L : List (Nat × Value)} {G : GS} {F : List Chunk}
  {dst : Option Tmp} {ty : TypeId} {pos : String} {af : Array Edge} {g : Option (Nat × Bool)} {x y : Operand}
theorem q_callO {f : Nat} {xs : List Operand} {vs : List Value} {ta : Array TypeId} {post : GS → Value → Chunk → Prop} (s : SF N a L) (hv : opvs L xs = some vs) (hf : okF P f = some (false, false)) (hd : Nat.blt d N = true)
    (hc : Calls P f vs.toArray w (RetO G F post)) (k : ∀ a' w' v G' c', G.Le G' → Holds G' w' (c' :: F) → post G' v c' → SF N a' ((d, v) :: L) → wpList P ops Q rest a' w') :
    wpList P ops Q (⟨some d, .call { callee := .value (.func f), args := xs.toArray, argTypes := ta }, ty, pos, af, none⟩ :: rest) a w :=
  wl rfl (o_call s hv hf hc (fun _ w' ⟨v, G', c', he, hG, hh, hp⟩ => ⟨v, he, k _ w' v G' c' hG hh hp (s.put d hd v)⟩))
theorem q_appendS {E n cap : Nat} {ao : Option Addr} {xs : List Value} {c : Chunk} {l : List UInt8} {t u : TypeId} (s : SF N a L) (hd : Nat.blt d N = true) (r : Row E 1 ao n cap xs c) (h : Holds G w (c :: F))
    (hx : opv L x = some (.slice ao n cap)) (hy : opv L y = some (S l)) (ht : P.underlying t = some (.slice E)) (hu : P.underlying u = some .string) (he : elemOk P E 1 1 = true) (hz : (P.info? E).bind (fun i => i.zero) = some (.int .u8 0)) (hb : n + l.length ≤ 140737488355328)
    (k : ∀ a' w' ao' cap' c', SF N a' ((d, .slice ao' (n + l.length) cap') :: L) → Row E 1 ao' (n + l.length) cap' (xs ++ l.map u8) c' → Holds G w' (c' :: F) → (ao' = none ↔ ao = none ∧ l = []) → wpList P ops Q rest a' w') :
    wpList P ops Q (⟨some d, .call { callee := .builtin .append, args := #[x, y], argTypes := #[t, u] }, ty, pos, af, none⟩ :: rest) a w := by
  obtain ⟨i, z, hi, hz', e1, e2, e3, e4⟩ := elem_parts he
  have hz0 : i.zero = some (.int .u8 0) := by simpa [hi] using hz
  obtain ⟨ao', cap', c', w', hrun, hr, hh, hn⟩ := run_appendS (P := P) (ty := ty) r h ht hu hi hz0 e1 e3 hb
  refine wl rfl (o_val (v := .slice ao' (n + l.length) cap') (w' := w') ?_ (k _ _ _ _ _ (s.put d hd _) hr hh hn))
  rw [run_builtin]
  simp only [builtin, List.map_toArray, List.map_cons, List.map_nil, s.ev hx, s.ev hy, Sem.run_bind, hrun]
  rfl
end
end Go.Eng
namespace Go.Eng
open Go Go.RowKit Go.Lib
theorem u8_of {c : Int} (h : 0 ≤ c ∧ c ≤ 255) : Value.int .u8 c = u8 (UInt8.ofNat c.toNat) := by
  have : (UInt8.ofNat c.toNat).toNat = c.toNat := by rw [UInt8.toNat_ofNat']; omega
  unfold u8
  rw [this]
  congr 1
  omega
/-- Freezing one of the own blocks leaves what is held beside it. -/
theorem Holds.frozen {G : GS} {w : World} {c : Chunk} {F : List Chunk} (h : Holds G w (c :: F)) {b n : Nat} (hb : b ∈ c.map (·.1)) : Holds G (w.freeze ⟨b, 0, none⟩ n) F := by
  have hf := h.drop
  have hn := h.nodup
  simp only [List.flatten_cons, List.map_append] at hn
  have hd := (List.nodup_append.1 hn).2.2
  have hk : ∀ k, k ≠ b → (w.freeze ⟨b, 0, none⟩ n).heap[k]? = w.heap[k]? := by
    intro k hk
    unfold World.freeze
    split
    · rfl
    · simp only [Array.getElem?_modify]
      rw [if_neg (fun e => hk e.symm)]
  have hs : (w.freeze ⟨b, 0, none⟩ n).os = w.os ∧ (w.freeze ⟨b, 0, none⟩ n).tape = w.tape ∧ (w.freeze ⟨b, 0, none⟩ n).output = w.output := by
    unfold World.freeze
    split <;> exact ⟨rfl, rfl, rfl⟩
  refine ⟨hs.1.trans h.os, hs.2.1.trans h.tape, hs.2.2.trans h.output, fun k o hm => ?_, fun p hp => ?_, hf.nodup, hf.apart⟩
  · rw [hk k]
    · exact h.mem k o hm
    · rintro rfl
      obtain ⟨q, hq, rfl⟩ := List.mem_map.1 hb
      have := h.apart q (by simp only [List.flatten_cons, List.mem_append]; exact .inl hq)
      rw [this] at hm; cases hm
  · rw [hk p.1]
    · exact hf.own p hp
    · intro e
      exact hd b hb _ (List.mem_map_of_mem hp) e.symm
section
variable {P : Program} {Q : Exit → Act → World → Prop} {K : Act → World → Prop} {a : Act} {w : World} {G : GS} {F : List Chunk}
  {dst : Option Tmp} {ty : TypeId} {pos : String} {af : Array Edge} {g : Option (Nat × Bool)} {x y : Operand}
theorem o_sliceData {n c b : Nat} {ta : Array TypeId} (hx : a.eval x = .slice (some ⟨b, 0, none⟩) n c) (hc : c ≠ 0) (k : K (a.put dst (.pointer (some ⟨b, 0, none⟩))) w) :
    Oper.wp P ⟨dst, .call { callee := .builtin .unsafeSliceData, args := #[x], argTypes := ta }, ty, pos, af, g⟩ a w K Q := by
  refine o_val ?_ k
  rw [run_builtin]
  have := run_unsafeSliceData_row (P := P) (w := w) ta ty ⟨b, 0, none⟩ n c hc
  simp only [builtin, List.map_toArray, List.map_cons, List.map_nil, hx, Sem.run_bind, this]
  rfl
theorem o_sliceData0 {n c : Nat} {ta : Array TypeId} (hx : a.eval x = .slice none n c) (k : K (a.put dst (.pointer none)) w) :
    Oper.wp P ⟨dst, .call { callee := .builtin .unsafeSliceData, args := #[x], argTypes := ta }, ty, pos, af, g⟩ a w K Q := by
  refine o_val ?_ k
  rw [run_builtin]
  have := run_unsafeSliceData_nil (P := P) (w := w) ta ty n c
  simp only [builtin, List.map_toArray, List.map_cons, List.map_nil, hx, Sem.run_bind, this]
  rfl
theorem o_unsafeString0 {p it : TypeId} (hx : a.eval x = .pointer none) (hy : a.eval y = .int .i64 0) (k : K (a.put dst (S [])) w) :
    Oper.wp P ⟨dst, .call { callee := .builtin .unsafeString, args := #[x, y], argTypes := #[p, it] }, ty, pos, af, g⟩ a w K Q := by
  refine o_val ?_ k
  rw [run_builtin]
  have := run_unsafeString_none (P := P) (w := w) p it ty none
  simp only [builtin, List.map_toArray, List.map_cons, List.map_nil, hx, hy, Sem.run_bind, this]
  rfl
theorem o_unsafeString {p it e b cap : Nat} {l : List UInt8} {c : Chunk} {z : Int} (h : Holds G w (c :: F)) (r : Row e 1 (some ⟨b, 0, none⟩) l.length cap (l.map u8) c) (hx : a.eval x = .pointer (some ⟨b, 0, none⟩)) (hy : a.eval y = .int .i64 z) (hz : z = (l.length : Int))
    (hp : P.underlying p = some (.pointer e)) (hc : P.cellsOf e = 1) (h0 : l ≠ []) (k : ∀ w', Holds G w' F → K (a.put dst (S l)) w') :
    Oper.wp P ⟨dst, .call { callee := .builtin .unsafeString, args := #[x, y], argTypes := #[p, it] }, ty, pos, af, g⟩ a w K Q := by
  subst hz
  rcases r.form with ⟨h1, _⟩ | ⟨g0, cur, h1, rfl, h2, h3, h4, h5⟩
  · cases h1
  injection h1 with h1
  injection h1 with h1
  subst h1
  have hown := h.own (b, .cells cur e (0, 0)) (by simp)
  simp only at hown
  have hm : maxLen = 9223372036854775807 := rfl
  have hcell : ∀ j x, l[j]? = some x → w.cell? ((⟨b, 0, none⟩ : Addr).add j) = some (.int .u8 x.toNat) := by
    intro j x hj
    rw [add_mk]
    have hlt := (List.getElem?_eq_some_iff.1 hj).1
    have : (l.map u8)[j]? = some (u8 x) := by simp [hj]
    rw [← h5, Nat.mul_one, List.getElem?_take_of_lt hlt] at this
    simp only [World.cell?, hown, Nat.zero_add]
    simpa using this
  have := run_unsafeString_row (P := P) (w := w) p it ty e hp hc b cur.size (by simp [World.shape?, hown]) l h0 (by omega) (by omega) hcell
  refine o_val (w' := w.freeze ⟨b, 0, none⟩ l.length) ?_ (k _ (h.frozen (by simp)))
  rw [run_builtin]
  simp only [builtin, List.map_toArray, List.map_cons, List.map_nil, hx, hy, Sem.run_bind, this]
  rfl
end
end Go.Eng
namespace Go.Eng
open Go Go.RowKit
theorem Holds.dropsnd {G : GS} {w : World} {c d : Chunk} {F : List Chunk} (h : Holds G w (c :: d :: F)) : Holds G w (c :: F) := (h.front 1 rfl).drop
end Go.Eng
