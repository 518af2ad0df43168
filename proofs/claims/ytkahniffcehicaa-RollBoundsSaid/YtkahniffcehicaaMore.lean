/- More of the engine's laws: division, slices that are built or read, tables, bytes, calls that extend the world. No condition: plain lemmas. -/
import Derived.Test.YtkahniffcehicaaReg
import Derived.Lib.ItoaMem
import Derived.Lib.ItoaLen
import Derived.Lib.LaidTab
import Derived.Sort.Grow
namespace Go.Eng
open Go Go.RowKit
section
variable {P : Program} {ops : Array Oper} {Q : Exit → Act → World → Prop} {K : Act → World → Prop} {a : Act} {w : World} {rest : List Oper} {N d : Nat} {L : List (Nat × Value)} {G : GS} {H : List Chunk}
  {dst : Option Tmp} {ty : TypeId} {pos : String} {af : Array Edge} {g : Option (Nat × Bool)} {x y : Operand}

theorem tdiv_pos {m n : Int} (h : 0 ≤ m) : m.tdiv n = m / n := Int.tdiv_eq_ediv_of_nonneg h
theorem tdiv_neg {m n : Int} (h : m ≤ 0) : m.tdiv n = -((-m) / n) := by
  have := Int.neg_tdiv (-m) n
  rw [Int.neg_neg] at this
  rw [this, Int.tdiv_eq_ediv_of_nonneg (by omega)]
theorem tmod_pos {m n : Int} (h : 0 ≤ m) : m.tmod n = m % n := Int.tmod_eq_emod_of_nonneg h
theorem tmod_neg {m n : Int} (h : m ≤ 0) : m.tmod n = -((-m) % n) := by
  have := Int.neg_tmod (-m) n
  rw [Int.neg_neg] at this
  rw [this, Int.tmod_eq_emod_of_nonneg (by omega)]

section
variable {t t2 : TypeId} {kd : IntKind} {m n z : Int}
theorem o_quo {u : Int} (hx : a.eval x = .int kd m) (hy : a.eval y = .int kd n) (h0 : n ≠ 0) (hu : m.tdiv n = u) (hz : kd.wrap u = z) (k : K (a.put dst (.int kd z)) w) : Oper.wp P ⟨dst, .binOp .quo t x y t2, ty, pos, af, g⟩ a w K Q :=
  o_val (by subst hz; subst hu; simp [execOp, hx, hy, eqGuard, binOp, Op.intDiv, h0]) k
theorem o_rem (hx : a.eval x = .int kd m) (hy : a.eval y = .int kd n) (h0 : n ≠ 0) (hz : m.tmod n = z) (k : K (a.put dst (.int kd z)) w) : Oper.wp P ⟨dst, .binOp .rem t x y t2, ty, pos, af, g⟩ a w K Q :=
  o_val (by subst hz; simp [execOp, hx, hy, eqGuard, binOp, Op.intDiv, h0]) k
theorem o_neg (hx : a.eval x = .int kd m) (hz : kd.wrap (0 - m) = z) (k : K (a.put dst (.int kd z)) w) : Oper.wp P ⟨dst, .unOp .neg t x, ty, pos, af, g⟩ a w K Q :=
  o_val (by subst hz; simp [execOp, hx, Op.unary, Op.intArith]) k
theorem o_min {ta : Array TypeId} (hx : a.eval x = .int kd m) (hy : a.eval y = .int kd n) (k : K (a.put dst (.int kd (min m n))) w) : Oper.wp P ⟨dst, .call { callee := .builtin .min, args := #[x, y], argTypes := ta }, ty, pos, af, g⟩ a w K Q := by
  refine o_val ?_ k
  rw [run_builtin]
  have e : (if n < m then n else m) = min m n := by simp only [Int.min_def]; split <;> split <;> omega
  simp [builtin, Builtin.min_, Builtin.min2, hx, hy, e]
theorem o_max {ta : Array TypeId} (hx : a.eval x = .int kd m) (hy : a.eval y = .int kd n) (k : K (a.put dst (.int kd (max m n))) w) : Oper.wp P ⟨dst, .call { callee := .builtin .max, args := #[x, y], argTypes := ta }, ty, pos, af, g⟩ a w K Q := by
  refine o_val ?_ k
  rw [run_builtin]
  have e : (if n > m then n else m) = max m n := by simp only [Int.max_def]; split <;> split <;> omega
  simp [builtin, Builtin.max_, Builtin.max2, hx, hy, e]
end
theorem o_extract {vs : Array Value} {i : Nat} {v : Value} (hx : a.eval x = .tuple vs) (hv : vs[i]? = some v) (k : K (a.put dst v) w) : Oper.wp P ⟨dst, .extract x i, ty, pos, af, g⟩ a w K Q :=
  o_val (by simp [execOp, hx, Instr.extract, hv]) k

/-! ### A slice that is built -/
theorem run_buildSliceB {T len : Nat} {xs : List (Nat × Operand)} {vs : List (Nat × Value)} {cl : List Value} {E : Nat} (s : SF N a L) (hv : opps L xs = some vs)
    (hr : ∀ w : World, (Instr.buildSlice T len vs.toArray).run P w = .ok (.slice (some ⟨w.heap.size, 0, none⟩) len len) (w.alloc (.cells cl.toArray E))) :
    (execOp a.eval ⟨dst, .buildSlice T len xs.toArray, ty, pos, af, g⟩).run P w = .ok (.value (.slice (some ⟨w.heap.size, 0, none⟩) len len)) (w.alloc (.cells cl.toArray E)) := by
  have e := opps_eval s xs hv
  simp only [execOp, List.map_toArray, e, Sem.run_bind]
  rw [hr]
  rfl
theorem q_buildSlice {T len : Nat} {xs : List (Nat × Operand)} {vs : List (Nat × Value)} {cl : List Value} {E : Nat} (s : SF N a L) (hd : Nat.blt d N = true) (h : Holds G w H) (hv : opps L xs = some vs)
    (hr : ∀ w : World, (Instr.buildSlice T len vs.toArray).run P w = .ok (.slice (some ⟨w.heap.size, 0, none⟩) len len) (w.alloc (.cells cl.toArray E)))
    (k : ∀ a' w' b, SF N a' ((d, .slice (some ⟨b, 0, none⟩) len len) :: L) → Holds G w' ([(b, .cells cl.toArray E (0, 0))] :: H) → wpList P ops Q rest a' w') : wpList P ops Q (⟨some d, .buildSlice T len xs.toArray, ty, pos, af, none⟩ :: rest) a w :=
  wl rfl (o_val (run_buildSliceB s hv hr) (k _ _ _ (s.put d hd _) (h.alloc _)))

/-- A slice's element by a number. -/
theorem o_idxSm {t e n c i sz b m : Nat} {ao : Option Addr} {kd : IntKind} {z : Int} (hx : a.eval x = .slice ao n c) (hy : a.eval y = .int kd z) (ht : P.underlying t = some (.slice e)) (hs : szOf P e = some sz)
    (hz : z = (i : Int)) (hi : i < n) (ha : ao = some ⟨blk ao, ofs ao, none⟩) (hb : blk ao = b) (hm : ofs ao + i * sz = m) (k : K (a.put dst (.pointer (some ⟨b, m, none⟩))) w) :
    Oper.wp P ⟨dst, .indexAddr t x y, ty, pos, af, g⟩ a w K Q := by
  subst hb; subst hm
  exact o_idxS hx hy ht hs hz hi ha k

/-- A table of strings. -/
theorem Holds.tblS (h : Holds G w H) (i j : Nat) {c0 : Chunk} {b : Nat} {c : Array Value} {T : TypeId} {fz : Nat × Nat} (hi : H[i]? = some c0) (hj : c0[j]? = some (b, .cells c T fz)) {tbl : List (List UInt8)} (hc : c.toList = tbl.map S)
    {k : Nat} (hk : k < tbl.length) : w.cell? ⟨b, k, none⟩ = some (S (tbl.getD k [])) := by
  refine h.cellO (c := c) (T := T) (fz := fz) (mem_at i j hi hj) ?_
  rw [← Array.getElem?_toList, hc, List.getElem?_map, List.getD_eq_getElem?_getD, List.getElem?_eq_getElem hk]
  rfl

/-! ### Bytes -/
theorem run_bytesS {b o : Nat} : ∀ (cs : List Value) (zs : List Int), cs = zs.map (Value.int .u8) → (∀ j v, cs[j]? = some v → w.cell? ⟨b, o + j, none⟩ = some v) → ∀ c : Nat,
    (Conv.bytesToString (.slice (some ⟨b, o, none⟩) cs.length c)).run P w = .ok (S (zs.map fun z => UInt8.ofNat z.toNat)) w := by
  intro cs zs hz hc c
  have hl := run_loadCells (P := P) (w := w) b o cs 0 #[] (fun j v hv => by simpa using hc j v hv)
  have hl' : (loadCells ⟨b, o, none⟩ cs.length).run P w = .ok cs.toArray w := by simpa [loadCells] using hl
  subst hz
  rw [run_bytesToString w _ _ c zs hl']
  have key : ∀ (zs : List Int) (acc : List UInt8), zs.foldl (fun r n => r.push (UInt8.ofNat n.toNat)) (⟨acc.toArray⟩ : ByteArray) = ⟨(acc ++ zs.map fun z => UInt8.ofNat z.toNat).toArray⟩ := by
    intro zs
    induction zs with
    | nil => intro acc; simp
    | cons z zs ih =>
      intro acc
      have hp : (⟨acc.toArray⟩ : ByteArray).push (UInt8.ofNat z.toNat) = ⟨(acc ++ [UInt8.ofNat z.toNat]).toArray⟩ := by
        apply ByteArray.ext
        simp
      simp only [List.foldl_cons, hp, ih, List.map_cons, List.append_assoc, List.singleton_append]
  have := key zs []
  simp only [List.nil_append] at this
  have he : (ByteArray.empty : ByteArray) = ⟨([] : List UInt8).toArray⟩ := rfl
  rw [he, this]
theorem o_bytes {T T' e b o n c : Nat} {cs : List Value} {zs : List Int} {d : TypeDesc} (hx : a.eval x = .slice (some ⟨b, o, none⟩) n c) (hT : P.underlying T = some (.slice e)) (he : P.underlying e = some (.int .u8)) (hT' : P.underlying T' = some .string)
    (hn : cs.length = n) (hz : cs = zs.map (Value.int .u8)) (hc : ∀ j v, cs[j]? = some v → w.cell? ⟨b, o + j, none⟩ = some v) {bs : List UInt8} (hb : (zs.map fun z => UInt8.ofNat z.toNat) = bs) (k : K (a.put dst (S bs)) w) :
    Oper.wp P ⟨dst, .convert T T' x, ty, pos, af, g⟩ a w K Q := by
  subst hn; subst hb
  refine o_val ?_ k
  have := run_bytesS (P := P) (w := w) cs zs hz hc c
  simp [execOp, hx, convert, run_underlying hT, run_underlying hT', run_underlying he, this]

/-! ### Calls by contracts that speak of worlds -/
theorem Holds.ext {w' : World} (h : Holds G w H) (hb : Below w.heap.size w w') : Holds G w' H :=
  ⟨hb.os.trans h.os, hb.tape.trans h.tape, hb.output.trans h.output, fun b o hm => by have := h.mem b o hm; rw [hb.block b (lt_of_heap this)]; exact this,
    fun p hp => by have := h.own p hp; rw [hb.block p.1 (lt_of_heap this)]; exact this, h.nodup, h.apart⟩
theorem Ret.of {f : Nat} {vs : Array Value} {v : Value} {F : List Chunk} {post : GS → Value → Prop} (h : Holds G w F) (hc : Calls P f vs w fun e w' => e = .returned v ∧ Below w.heap.size w w') (hp : post G v) : Calls P f vs w (Ret G F post) :=
  hc.mono fun _ _ ⟨he, hb⟩ => ⟨v, G, he, GS.Le.refl G, h.ext hb, hp⟩
theorem below_growN (w : World) (k : Nat) (os : Array Obj) : Below w.heap.size w (Go.Sort.grow (w.drewN k) os) :=
  ⟨rfl, rfl, rfl, by simp [Go.Sort.grow], fun i hi => by simp only [Go.Sort.grow]; exact Array.getElem?_append_left hi⟩

/-! ### What a package-level table holds, in ghost memory -/
def GVar (P : Program) (name : String) (cs : Array Value) (G : GS) : Prop := ∃ g T fz, P.globalNamed name = some g ∧ G.M g = some (.cells cs T fz)
theorem GVar.mono {name : String} {cs : Array Value} {G' : GS} (h : GVar P name cs G) (hG : G.Le G') : GVar P name cs G' := by
  obtain ⟨g, T, fz, h1, h2⟩ := h
  exact ⟨g, T, fz, h1, hG.mem _ _ h2⟩
theorem GVar.var {name : String} {cs : Array Value} (hv : GVar P name cs G) (h : Holds G w H) : w.var? P name = some cs := by
  obtain ⟨g, T, fz, h1, h2⟩ := hv
  have := h.mem _ _ h2
  simp [World.var?, h1, this]

/-! ### Slices that lie in ghost memory -/
structure RdF {α : Type} (enc : α → List Value) (size : Nat) (M : Mem) (ao : Option Addr) (cap : Nat) (l : List α) : Prop where
  le : l.length ≤ cap
  cap : cap ≤ 9223372036854775807
  addr : 0 < l.length → ao = some ⟨blk ao, ofs ao, none⟩
  row : ∀ i x, l[i]? = some x → MRow M (blk ao) (ofs ao + i * size) (enc x)
theorem RdF.mono {α : Type} {enc : α → List Value} {size cap : Nat} {G' : GS} {ao : Option Addr} {l : List α} (h : RdF enc size G.M ao cap l) (hG : G.Le G') : RdF enc size G'.M ao cap l :=
  ⟨h.le, h.cap, h.addr, fun i x hx => (h.row i x hx).mono hG⟩
theorem RdF.nil {α : Type} (enc : α → List Value) (size : Nat) (M : Mem) (ao : Option Addr) : RdF enc size M ao 0 ([] : List α) :=
  ⟨by simp, by omega, fun h => by simp at h, fun i x h => by simp at h⟩
/-- A row of the call's own, made ghost memory, reads as what was put in. -/
theorem flat_at {α : Type} (enc : α → List Value) (size : Nat) (he : ∀ x, (enc x).length = size) : ∀ (l : List α) (i : Nat) (x : α), l[i]? = some x → ∀ j v, (enc x)[j]? = some v → (l.flatMap enc)[i * size + j]? = some v
  | [], i, x, h => by simp at h
  | y :: l, 0, x, h => by
    simp only [List.getElem?_cons_zero, Option.some.injEq] at h
    subst h
    intro j v hv
    simp only [Nat.zero_mul, Nat.zero_add, List.flatMap_cons]
    rw [List.getElem?_append_left (List.getElem?_eq_some_iff.1 hv).1]
    exact hv
  | y :: l, i + 1, x, h => by
    intro j v hv
    have := flat_at enc size he l i x (by simpa using h) j v hv
    simp only [List.flatMap_cons]
    rw [List.getElem?_append_right (by rw [he]; rw [Nat.add_mul]; omega), he, show (i + 1) * size + j - size = i * size + j by rw [Nat.add_mul]; omega]
    exact this
theorem Row.toG {α : Type} {enc : α → List Value} {E size n cap : Nat} {ao : Option Addr} {l : List α} {c : Chunk} (he : ∀ x, (enc x).length = size) (r : Row E size ao n cap (l.flatMap enc) c) (hn : l.length = n) (h : Holds G w (c :: H)) :
    ∃ G', G.Le G' ∧ Holds G' w H ∧ RdF enc size G'.M ao cap l := by
  obtain ⟨h1, h2, h3⟩ := h.toG
  refine ⟨_, h1, h2, ?_⟩
  subst hn
  rcases r.form with ⟨rfl, h4, rfl, rfl⟩ | ⟨g, cur, rfl, rfl, h4, h5, h6, h7⟩
  · have : l = [] := List.eq_nil_of_length_eq_zero h4
    subst this
    exact RdF.nil _ _ _ _
  · refine ⟨h4, h5, fun _ => rfl, fun i x hx j v hv => ?_⟩
    have hM := h3 (g, .cells cur E (0, 0)) (by simp)
    simp only at hM
    simp only [blk, ofs, mcell, hM, Nat.zero_add]
    have hf := flat_at enc size he l i x hx j v hv
    rw [← h7] at hf
    have hlt : i * size + j < l.length * size := by
      rcases Nat.lt_or_ge (i * size + j) (l.length * size) with h8 | h8
      · exact h8
      · rw [List.getElem?_take_eq_none h8] at hf; cases hf
    rw [List.getElem?_take_of_lt hlt] at hf
    simpa using hf
end
end Go.Eng
namespace Go.Eng
open Go Go.RowKit
theorem Row.lit {E size n b : Nat} {xs : List Value} (hl : xs.length = n * size) (hn : n ≤ maxLen) : Row E size (some ⟨b, 0, none⟩) n n xs [(b, .cells xs.toArray E (0, 0))] :=
  ⟨hl, .inr ⟨b, xs.toArray, rfl, rfl, Nat.le_refl _, hn, by simpa using hl, by rw [← hl]; simp⟩⟩
theorem Row.cast {E size n n' cap : Nat} {ao : Option Addr} {xs xs' : List Value} {c : Chunk} (r : Row E size ao n cap xs c) (hn : n = n') (hx : xs = xs') : Row E size ao n' cap xs' c := by subst hn; subst hx; exact r
theorem Holds.nil {G : GS} {w : World} {H : List Chunk} (h : Holds G w H) : Holds G w ([] :: H) := h.perm (by simp)
theorem Holds.unnil {G : GS} {w : World} {H : List Chunk} (h : Holds G w ([] :: H)) : Holds G w H := h.drop
abbrev encS (l : List UInt8) : List Value := [S l]

section
variable {P : Program} {ops : Array Oper} {Q : Exit → Act → World → Prop} {a : Act} {w : World} {rest : List Oper} {N d : Nat} {L : List (Nat × Value)} {G : GS} {F : List Chunk} {ty : TypeId} {pos : String} {af : Array Edge}

def elemOk (P : Program) (E size bytes : Nat) : Bool := match P.info? E with
  | some i => match i.zero with
    | some z => Nat.beq i.size size && Nat.beq z.cells.size size && Nat.beq i.bytes bytes && Nat.blt 0 size
    | none => false
  | none => false
theorem elem_parts {E size bytes : Nat} (h : elemOk P E size bytes = true) : ∃ i z, P.info? E = some i ∧ i.zero = some z ∧ i.size = size ∧ z.cells.size = size ∧ i.bytes = bytes ∧ 0 < size := by
  unfold elemOk at h
  rcases hi : P.info? E with _ | i
  · simp [hi] at h
  · rcases hz : i.zero with _ | z
    · simp [hi, hz] at h
    · simp only [hi, hz, Bool.and_eq_true, Nat.blt_eq] at h
      exact ⟨i, z, rfl, hz, Nat.eq_of_beq_eq_true h.1.1.1, Nat.eq_of_beq_eq_true h.1.1.2, Nat.eq_of_beq_eq_true h.1.2, h.2⟩

/-- An append onto a row of the call's own; what is appended lies in cells that are known. -/
theorem q_append {E size bytes n cap : Nat} {ao : Option Addr} {xs : List Value} {c : Chunk} {t : TypeId} {x y : Operand} {b o m k0 : Nat} {news : List Value} (s : SF N a L) (hd : Nat.blt d N = true) (r : Row E size ao n cap xs c) (h : Holds G w (c :: F))
    (hx : opv L x = some (.slice ao n cap)) (hy : opv L y = some (.slice (some ⟨b, o, none⟩) m k0)) (ht : P.underlying t = some (.slice E)) (he : elemOk P E size bytes = true)
    (hl : news.length = m * size) (hnews : ∀ j u, news[j]? = some u → w.cell? ⟨b, o + j, none⟩ = some u) (h1 : news.all Value.oneCell' = true) (h63 : n + m ≤ 9223372036854775807) (hbytes : (n + m) * bytes ≤ 140737488355328)
    (k : ∀ a' w' ao' cap' c', SF N a' ((d, .slice ao' (n + m) cap') :: L) → Row E size ao' (n + m) cap' (xs ++ news) c' → Holds G w' (c' :: F) → wpList P ops Q rest a' w') :
    wpList P ops Q (⟨some d, .call { callee := .builtin .append, args := #[x, y], argTypes := #[t, t] }, ty, pos, af, none⟩ :: rest) a w := by
  obtain ⟨i, z, hi, hz, e1, e2, e3, e4⟩ := elem_parts he
  obtain ⟨ao', cap', c', w', hrun, hr, hh⟩ := run_append (P := P) (ty := ty) r h ht hi hz e1 e2 e4 hl hnews h1 (by unfold maxLen; omega) (by rw [e3]; exact hbytes) (b := b) (o := o) (k := k0)
  refine wl rfl (o_val (v := .slice ao' (n + m) cap') (w' := w') ?_ (k _ _ _ _ _ (s.put d hd _) hr hh))
  rw [run_builtin]
  simp only [builtin, List.map_toArray, List.map_cons, List.map_nil, s.ev hx, s.ev hy, Sem.run_bind, hrun]
  rfl
end
end Go.Eng
namespace Go.Eng
open Go Go.RowKit
section
variable {P : Program} {Q : Exit → Act → World → Prop} {K : Act → World → Prop} {a : Act} {w : World} {dst : Option Tmp} {ty : TypeId} {pos : String} {af : Array Edge} {g : Option (Nat × Bool)} {x y : Operand} {kd : IntKind} {m n z : Int}
theorem o_minz {ta : Array TypeId} (hx : a.eval x = .int kd m) (hy : a.eval y = .int kd n) (hz : min m n = z) (k : K (a.put dst (.int kd z)) w) : Oper.wp P ⟨dst, .call { callee := .builtin .min, args := #[x, y], argTypes := ta }, ty, pos, af, g⟩ a w K Q := by
  subst hz; exact o_min hx hy k
theorem o_maxz {ta : Array TypeId} (hx : a.eval x = .int kd m) (hy : a.eval y = .int kd n) (hz : max m n = z) (k : K (a.put dst (.int kd z)) w) : Oper.wp P ⟨dst, .call { callee := .builtin .max, args := #[x, y], argTypes := ta }, ty, pos, af, g⟩ a w K Q := by
  subst hz; exact o_max hx hy k
end
end Go.Eng
namespace Go.Eng
open Go Go.RowKit
section
variable {P : Program} {Q : Exit → Act → World → Prop} {K : Act → World → Prop} {a : Act} {w : World} {dst : Option Tmp} {ty : TypeId} {pos : String} {af : Array Edge} {g : Option (Nat × Bool)} {x y : Operand}
theorem o_sliceA {T n e b o m : Nat} {kd : IntKind} {z : Int} (hx : a.eval x = .pointer (some ⟨b, o, none⟩)) (hy : a.eval y = .int kd z) (ht : P.underlying T = some (.array n e)) {sz : Nat} (hs : szOf P e = some sz) (hz : z = (m : Int)) (hm : m ≤ n)
    (k : K (a.put dst (.slice (some ⟨b, o, none⟩) m n)) w) : Oper.wp P ⟨dst, .slice T x none (some y) none, ty, pos, af, g⟩ a w K Q := by
  subst hz
  refine o_val ?_ k
  have e1 : (if n = 0 then (⟨b, o, none⟩ : Addr) else Addr.add ⟨b, o, none⟩ (0 * 0)) = ⟨b, o, none⟩ := by split <;> simp [add_mk]
  simp [execOp, Instr.sliceAt, Instr.sureAddr, Instr.sliceBounds, Instr.sliceBound, asIntOf, hx, hy, run_underlying ht, run_sizeOf hs, hm, add_mk]
end
end Go.Eng
