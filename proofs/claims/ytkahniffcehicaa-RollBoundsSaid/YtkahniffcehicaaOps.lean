/- The engine's laws for operations, regions, branches, loops and returns, over any program. No condition: plain lemmas. -/
import Derived.Test.YtkahniffcehicaaEng
import Derived.Orders
namespace Go.Eng
open Go Go.RowKit

section
variable {P : Program} {ops : Array Oper} {Q : Exit → Act → World → Prop} {K : Act → World → Prop} {a : Act} {w : World} {rest : List Oper}

theorem beq_dec (m n : Int) : (m == n) = decide (m = n) := rfl
/-! ### An operation by its run -/
theorem o_val {o : Oper} {v : Value} {w' : World} (hr : (execOp a.eval o).run P w = .ok (.value v) w') (k : K (a.put o.dst v) w') : o.wp P a w K Q := by
  unfold Oper.wp; rw [hr]; exact k
theorem o_skip {o : Oper} {w' : World} (hr : (execOp a.eval o).run P w = .ok .skip w') (k : K (a.put o.dst undef) w') : o.wp P a w K Q := by
  unfold Oper.wp; rw [hr]; exact k
theorem o_enter {o : Oper} {f : FuncId} {args : Array Value} {w' : World} (hr : (execOp a.eval o).run P w = .ok (.enter f args) w')
    (hc : Calls P f args w' fun e w'' => ∃ v, e = .returned v ∧ K (a.put o.dst v) w'') : o.wp P a w K Q := by
  unfold Oper.wp; rw [hr]
  exact hc.mono fun e w'' ⟨v, he, hk⟩ => by subst he; exact hk

theorem wl {o : Oper} (hg : o.guard = none) (h : o.wp P a w (wpList P ops Q rest) Q) : wpList P ops Q (o :: rest) a w := by
  unfold wpList
  rw [if_pos (by simp [Region.wanted, hg])]
  exact .inl h

/-- In a region in the text's order: the operation, then the rest from whatever frame knows the slots. -/
theorem q_of {N d : Nat} {L : List (Nat × Value)} {v : Value} {w' : World} {op : Op} {ty : TypeId} {pos : String} {af : Array Edge} (s : SF N a L) (hd : Nat.blt d N = true)
    (ho : ∀ K : Act → World → Prop, K (a.put (some d) v) w' → Oper.wp P ⟨some d, op, ty, pos, af, none⟩ a w K Q)
    (k : ∀ a', SF N a' ((d, v) :: L) → wpList P ops Q rest a' w') : wpList P ops Q (⟨some d, op, ty, pos, af, none⟩ :: rest) a w :=
  wl rfl (ho _ (k _ (s.put d hd v)))
theorem q_of0 {N : Nat} {L : List (Nat × Value)} {v : Value} {w' : World} {op : Op} {ty : TypeId} {pos : String} {af : Array Edge} (s : SF N a L)
    (ho : ∀ K : Act → World → Prop, K (a.put none v) w' → Oper.wp P ⟨none, op, ty, pos, af, none⟩ a w K Q)
    (k : ∀ a', SF N a' L → wpList P ops Q rest a' w') : wpList P ops Q (⟨none, op, ty, pos, af, none⟩ :: rest) a w :=
  wl rfl (ho _ (k _ (s.put0 v)))

section
variable {dst : Option Tmp} {ty : TypeId} {pos : String} {af : Array Edge} {g : Option (Nat × Bool)}
theorem o_move {x : Operand} {v : Value} (hx : a.eval x = v) (k : K (a.put dst v) w) : Oper.wp P ⟨dst, .move x, ty, pos, af, g⟩ a w K Q :=
  o_val (by simp only [execOp, hx]; rfl) k
theorem o_assign {x : Operand} {v : Value} (hx : a.eval x = v) (k : K (a.put dst v) w) : Oper.wp P ⟨dst, .assign x, ty, pos, af, g⟩ a w K Q :=
  o_val (by simp only [execOp, hx]; rfl) k
theorem o_pick {c x y : Operand} {b : Bool} {u v z : Value} (hc : a.eval c = .bool b) (hx : a.eval x = u) (hy : a.eval y = v) (hz : (bif b then u else v) = z) (k : K (a.put dst z) w) :
    Oper.wp P ⟨dst, .pick c x y, ty, pos, af, g⟩ a w K Q :=
  o_val (by subst hz; cases b <;> simp [execOp, hc, hx, hy, asBool]) k

/-- A run of one value, whatever the operation's make: 'hr' by the kernel. -/
theorem o_bin {op : BinOp} {t t2 : TypeId} {x y : Operand} {u v z : Value} (hx : a.eval x = u) (hy : a.eval y = v)
    (hr : ((do eqGuard op t x y u v; binOp op t u v) : Sem Value).run P w = .ok z w) (k : K (a.put dst z) w) : Oper.wp P ⟨dst, .binOp op t x y t2, ty, pos, af, g⟩ a w K Q :=
  o_val (by simp only [execOp, hx, hy, Sem.run_bind] at hr ⊢; rw [hr]; rfl) k

section
variable {t t2 : TypeId} {x y : Operand} {kd : IntKind} {m n z : Int} {b : Bool}
theorem o_add (hx : a.eval x = .int kd m) (hy : a.eval y = .int kd n) (hz : kd.wrap (m + n) = z) (k : K (a.put dst (.int kd z)) w) : Oper.wp P ⟨dst, .binOp .add t x y t2, ty, pos, af, g⟩ a w K Q :=
  o_val (by subst hz; simp [execOp, hx, hy, eqGuard, binOp, Op.intArith]) k
theorem o_sub (hx : a.eval x = .int kd m) (hy : a.eval y = .int kd n) (hz : kd.wrap (m - n) = z) (k : K (a.put dst (.int kd z)) w) : Oper.wp P ⟨dst, .binOp .sub t x y t2, ty, pos, af, g⟩ a w K Q :=
  o_val (by subst hz; simp [execOp, hx, hy, eqGuard, binOp, Op.intArith]) k
theorem o_mul (hx : a.eval x = .int kd m) (hy : a.eval y = .int kd n) (hz : kd.wrap (m * n) = z) (k : K (a.put dst (.int kd z)) w) : Oper.wp P ⟨dst, .binOp .mul t x y t2, ty, pos, af, g⟩ a w K Q :=
  o_val (by subst hz; simp [execOp, hx, hy, eqGuard, binOp, Op.intArith]) k
theorem o_lss (hx : a.eval x = .int kd m) (hy : a.eval y = .int kd n) (k : K (a.put dst (.bool (decide (m < n)))) w) : Oper.wp P ⟨dst, .binOp .lss t x y t2, ty, pos, af, g⟩ a w K Q :=
  o_val (by simp [execOp, hx, hy, eqGuard, binOp, Op.intCmp]) k
theorem o_leq (hx : a.eval x = .int kd m) (hy : a.eval y = .int kd n) (k : K (a.put dst (.bool (decide (m ≤ n)))) w) : Oper.wp P ⟨dst, .binOp .leq t x y t2, ty, pos, af, g⟩ a w K Q :=
  o_val (by simp [execOp, hx, hy, eqGuard, binOp, Op.intCmp]) k
theorem o_gtr (hx : a.eval x = .int kd m) (hy : a.eval y = .int kd n) (k : K (a.put dst (.bool (decide (n < m)))) w) : Oper.wp P ⟨dst, .binOp .gtr t x y t2, ty, pos, af, g⟩ a w K Q :=
  o_val (by simp [execOp, hx, hy, eqGuard, binOp, Op.intCmp]) k
theorem o_geq (hx : a.eval x = .int kd m) (hy : a.eval y = .int kd n) (k : K (a.put dst (.bool (decide (n ≤ m)))) w) : Oper.wp P ⟨dst, .binOp .geq t x y t2, ty, pos, af, g⟩ a w K Q :=
  o_val (by simp [execOp, hx, hy, eqGuard, binOp, Op.intCmp]) k
theorem o_eql (hx : a.eval x = .int kd m) (hy : a.eval y = .int kd n) (k : K (a.put dst (.bool (decide (m = n)))) w) : Oper.wp P ⟨dst, .binOp .eql t x y t2, ty, pos, af, g⟩ a w K Q :=
  o_val (by simp [execOp, hx, hy, eqGuard, binOp, Op.intCmp, beq_dec]) k
theorem o_neq (hx : a.eval x = .int kd m) (hy : a.eval y = .int kd n) (k : K (a.put dst (.bool (!decide (m = n)))) w) : Oper.wp P ⟨dst, .binOp .neq t x y t2, ty, pos, af, g⟩ a w K Q :=
  o_val (by simp [execOp, hx, hy, eqGuard, binOp, Op.intCmp, bne, beq_dec]) k
theorem o_not (hx : a.eval x = .bool b) (k : K (a.put dst (.bool (!b))) w) : Oper.wp P ⟨dst, .unOp .not t x, ty, pos, af, g⟩ a w K Q :=
  o_val (by simp [execOp, hx, Op.unary]) k
theorem o_conv {t' : TypeId} {d : TypeDesc} {kd' : IntKind} (hx : a.eval x = .int kd m) (hs : P.underlying t = some d) (ht : P.underlying t' = some (.int kd')) (hz : kd'.wrap m = z) (k : K (a.put dst (.int kd' z)) w) :
    Oper.wp P ⟨dst, .convert t t' x, ty, pos, af, g⟩ a w K Q :=
  o_val (by subst hz; simp [execOp, hx, convert, run_underlying hs, run_underlying ht, Conv.intToInt]) k
end

/-! ### Strings: a string is the value of a list of bytes -/
abbrev S (l : List UInt8) : Value := .string ⟨l.toArray⟩
section
variable {t t2 : TypeId} {x y : Operand} {l m : List UInt8}
theorem toList_mk (l : List UInt8) : ByteArray.toList ⟨l.toArray⟩ = l := by rw [ByteArray.toList_eq]
theorem o_sadd (hx : a.eval x = S l) (hy : a.eval y = S m) (hz : l.length + m.length ≤ 9223372036854775807) (k : K (a.put dst (S (l ++ m))) w) :
    Oper.wp P ⟨dst, .binOp .add t x y t2, ty, pos, af, g⟩ a w K Q := by
  refine o_val ?_ k
  have e : (⟨l.toArray⟩ : ByteArray) ++ ⟨m.toArray⟩ = ⟨(l ++ m).toArray⟩ := by
    apply ByteArray.ext
    simp
  have h1 : ByteArray.size ⟨l.toArray⟩ = l.length := by simp [ByteArray.size]
  have h2 : ByteArray.size ⟨m.toArray⟩ = m.length := by simp [ByteArray.size]
  simp [execOp, hx, hy, eqGuard, binOp, Op.stringOp, h1, h2, e]
  omega
theorem o_seql (hx : a.eval x = S l) (hy : a.eval y = S m) (k : K (a.put dst (.bool (decide (l = m)))) w) : Oper.wp P ⟨dst, .binOp .eql t x y t2, ty, pos, af, g⟩ a w K Q := by
  refine o_val ?_ k
  simp only [execOp, hx, hy, eqGuard, binOp, Op.stringOp, toList_mk]
  by_cases h : l = m <;> simp [h]
theorem o_sneq (hx : a.eval x = S l) (hy : a.eval y = S m) (k : K (a.put dst (.bool (!decide (l = m)))) w) : Oper.wp P ⟨dst, .binOp .neq t x y t2, ty, pos, af, g⟩ a w K Q := by
  refine o_val ?_ k
  simp only [execOp, hx, hy, eqGuard, binOp, Op.stringOp, toList_mk]
  by_cases h : l = m <;> simp [h]
theorem run_builtin (b : Builtin) (args : Array Operand) (ta : Array TypeId) (dst : Option Tmp) (ty : TypeId) (pos : String) (af : Array Edge) (g : Option (Nat × Bool)) :
    (execOp a.eval ⟨dst, .call { callee := .builtin b, args := args, argTypes := ta }, ty, pos, af, g⟩).run P w =
      (builtin b ta ty (args.map fun | .const _ => true | _ => false) (args.map a.eval)).run P w := by
  simp only [execOp, resolve, Sem.run_bind, Sem.run_pure, Result.andThen_ok, invoke]
  rfl
theorem o_slen {t : TypeId} (hx : a.eval x = S l) (ht : P.underlying t = some .string) (k : K (a.put dst (.int .i64 l.length)) w) :
    Oper.wp P ⟨dst, .call { callee := .builtin .len, args := #[x], argTypes := #[t] }, ty, pos, af, g⟩ a w K Q := by
  refine o_val ?_ k
  have h1 : ByteArray.size ⟨l.toArray⟩ = l.length := by simp [ByteArray.size]
  rw [run_builtin]
  simp [builtin, Builtin.len_, hx, h1, goInt, run_underlying ht]
theorem o_len {t e : TypeId} {ao : Option Addr} {n c : Nat} (hx : a.eval x = .slice ao n c) (ht : P.underlying t = some (.slice e)) (k : K (a.put dst (.int .i64 n)) w) :
    Oper.wp P ⟨dst, .call { callee := .builtin .len, args := #[x], argTypes := #[t] }, ty, pos, af, g⟩ a w K Q := by
  refine o_val ?_ k
  rw [run_builtin]
  simp [builtin, Builtin.len_, hx, goInt, run_underlying ht]
end

/-! ### What the program's tables say, as closed facts -/
def fOff (P : Program) (t i : Nat) : Option Nat :=
  match P.underlying t with
  | some (.struct fs) => match fs[i]? with
    | some f => match P.info? f.type with
      | some inf => bif Nat.beq inf.size 0 then none else some f.offset
      | none => none
    | none => none
  | _ => none
def szOf (P : Program) (t : Nat) : Option Nat := (P.info? t).map (·.size)
def isAg (P : Program) (t : Nat) : Option Bool := match P.underlying t with | some (.struct _) | some (.array ..) => some true | some _ => some false | none => none

theorem run_sizeOf {t n : Nat} (h : szOf P t = some n) (w : World) : (sizeOf t : Sem Nat).run P w = .ok n w := by
  unfold szOf at h
  rcases hi : P.info? t with _ | i
  · simp [hi] at h
  · simp only [hi, Option.map_some, Option.some.injEq] at h
    subst h
    simp [sizeOf, typeInfo, hi]
theorem run_isAgg {t : Nat} {b : Bool} (h : isAg P t = some b) (w : World) : (isAgg t : Sem Bool).run P w = .ok b w := by
  unfold isAg at h
  rcases hu : P.underlying t with _ | d
  · simp [hu] at h
  · rw [hu] at h
    cases d <;> simp at h <;> subst h <;> simp [isAgg, run_underlying hu]

/-! ### Addresses -/
theorem add_mk (b o n : Nat) : Addr.add ⟨b, o, none⟩ n = ⟨b, o + n, none⟩ := by
  unfold Addr.add
  split
  · rename_i h; subst h; rfl
  · rfl

theorem run_fieldPlace {t i n b o : Nat} {fs : Array Field} {f : Field} (ht : P.underlying t = some (.struct fs)) (hf : fs[i]? = some f) (h : fOff P t i = some n) :
    (fieldPlace ⟨b, o, none⟩ f : Sem Addr).run P w = .ok ⟨b, o + n, none⟩ w := by
  unfold fOff at h
  simp only [ht, hf] at h
  rcases hi : P.info? f.type with _ | inf
  · simp [hi] at h
  · simp only [hi] at h
    cases hz : Nat.beq inf.size 0 with
    | true => simp [hz] at h
    | false =>
      simp only [hz, cond_false, Option.some.injEq] at h
      subst h
      have hne : ¬ inf.size = 0 := fun e => by rw [e] at hz; simp at hz
      have hs : szOf P f.type = some inf.size := by simp [szOf, hi]
      simp only [fieldPlace, Sem.run_bind, run_sizeOf hs, Result.andThen_ok, if_neg hne, Sem.run_pure, add_mk]

section
variable {x y : Operand}
theorem o_fieldAddr {t i b o n : Nat} (hx : a.eval x = .pointer (some ⟨b, o, none⟩)) (h : fOff P t i = some n) (k : K (a.put dst (.pointer (some ⟨b, o + n, none⟩))) w) :
    Oper.wp P ⟨dst, .fieldAddr t x i, ty, pos, af, g⟩ a w K Q := by
  refine o_val ?_ k
  have h' := h
  unfold fOff at h'
  rcases ht : P.underlying t with _ | d
  · simp [ht] at h'
  rw [ht] at h'
  cases d <;> simp at h'
  rename_i fs
  rcases hf : fs[i]? with _ | f
  · simp [hf] at h'
  simp [execOp, Instr.fieldAt, Instr.sureAddr, hx, run_underlying ht, hf, run_fieldPlace ht hf h]

theorem o_nil {v : Value} {b o : Nat} (hx : a.eval x = .pointer (some ⟨b, o, none⟩)) (hv : Value.pointer (some ⟨b, o, none⟩) = v) (k : K (a.put dst v) w) : Oper.wp P ⟨dst, .nilCheck x, ty, pos, af, g⟩ a w K Q := by
  subst hv
  exact o_val (by simp [execOp, hx]) k

theorem o_idxA {t e b o n m i sz : Nat} {kd : IntKind} {z : Int} (hx : a.eval x = .pointer (some ⟨b, o, none⟩)) (hy : a.eval y = .int kd z) (ht : P.underlying t = some (.array n e)) (hs : szOf P e = some sz)
    (hz : z = (i : Int)) (hi : i < n) (hm : o + i * sz = m) (k : K (a.put dst (.pointer (some ⟨b, m, none⟩))) w) :
    Oper.wp P ⟨dst, .indexAddr t x y, ty, pos, af, g⟩ a w K Q := by
  subst hz
  subst hm
  refine o_val ?_ k
  simp [execOp, Instr.indexAt, Instr.sureAddr, asIntOf, hx, hy, run_underlying ht, run_sizeOf hs, hi, add_mk]

/-- The block and the place of a slice's address. -/
def blk : Option Addr → Nat | some p => p.block | none => 0
def ofs : Option Addr → Nat | some p => p.off | none => 0

theorem o_idxS {t e n c i sz : Nat} {ao : Option Addr} {kd : IntKind} {z : Int} (hx : a.eval x = .slice ao n c) (hy : a.eval y = .int kd z) (ht : P.underlying t = some (.slice e)) (hs : szOf P e = some sz)
    (hz : z = (i : Int)) (hi : i < n) (ha : ao = some ⟨blk ao, ofs ao, none⟩) (k : K (a.put dst (.pointer (some ⟨blk ao, ofs ao + i * sz, none⟩))) w) :
    Oper.wp P ⟨dst, .indexAddr t x y, ty, pos, af, g⟩ a w K Q := by
  subst hz
  refine o_val ?_ k
  rw [ha] at hx
  have hb : blk (some (⟨blk ao, ofs ao, none⟩ : Addr)) = blk ao := rfl
  simp [execOp, Instr.indexAt, asIntOf, hx, hy, run_underlying ht, run_sizeOf hs, hi, add_mk]

/-! ### Reading memory -/
def mcell (M : Mem) (b o : Nat) : Option Value := match M b with | some (.cells c _ _) => c[o]? | _ => none
theorem _root_.Go.Eng.Holds.cellM {G : GS} {H : List Chunk} (h : Holds G w H) {b o : Nat} {v : Value} (hm : mcell G.M b o = some v) : w.cell? ⟨b, o, none⟩ = some v := by
  unfold mcell at hm
  rcases hM : G.M b with _ | ob
  · simp [hM] at hm
  · have := h.mem b ob hM
    rw [hM] at hm
    cases ob <;> simp at hm
    simp [World.cell?, this, hm]
theorem _root_.Go.Eng.Holds.cellO {G : GS} {H : List Chunk} (h : Holds G w H) {b o : Nat} {c : Array Value} {T : TypeId} {fz : Nat × Nat} (hm : (b, Obj.cells c T fz) ∈ H.flatten) {v : Value} (hv : c[o]? = some v) :
    w.cell? ⟨b, o, none⟩ = some v := by
  have := h.own _ hm
  simp only at this
  simp [World.cell?, this, hv]

theorem run_loadCells (b o : Nat) : ∀ (cs : List Value) (i : Nat) (acc : Array Value), (∀ j v, cs[j]? = some v → w.cell? ⟨b, o + (i + j), none⟩ = some v) →
    (loadCellsFrom ⟨b, o, none⟩ i cs.length acc).run P w = .ok (acc ++ cs.toArray) w
  | [], i, acc, _ => by simp [loadCellsFrom]
  | c :: cs, i, acc, h => by
    have h0 := h 0 c rfl
    simp only [Nat.add_zero] at h0
    have ih := run_loadCells b o cs (i + 1) (acc.push c) (fun j v hv => by have := h (j + 1) v (by simpa using hv); rw [show i + 1 + j = i + (j + 1) by omega]; exact this)
    simp only [List.length_cons, loadCellsFrom, Sem.run_bind, add_mk, load, Sem.run, h0, Result.andThen_ok, ih]
    simp

theorem o_loadAgg {T b o n : Nat} {cs : List Value} (hx : a.eval x = .pointer (some ⟨b, o, none⟩)) (hag : isAg P T = some true) (hs : szOf P T = some n) (hl : cs.length = n)
    (hc : ∀ j v, cs[j]? = some v → w.cell? ⟨b, o + j, none⟩ = some v) (k : K (a.put dst (.agg cs.toArray)) w) : Oper.wp P ⟨dst, .load T x, ty, pos, af, g⟩ a w K Q := by
  subst hl
  refine o_val ?_ k
  have := run_loadCells (P := P) (w := w) b o cs 0 #[] (fun j v hv => by simpa using hc j v hv)
  simp [execOp, Instr.loadAt, Instr.sureAddr, loadVar, hx, run_isAgg hag, run_sizeOf hs, loadCells, this]
theorem o_loadOne {T b o : Nat} {v : Value} (hx : a.eval x = .pointer (some ⟨b, o, none⟩)) (hag : isAg P T = some false) (hc : w.cell? ⟨b, o, none⟩ = some v) (k : K (a.put dst v) w) :
    Oper.wp P ⟨dst, .load T x, ty, pos, af, g⟩ a w K Q := by
  refine o_val ?_ k
  simp [execOp, Instr.loadAt, Instr.sureAddr, loadVar, hx, run_isAgg hag, load, Sem.run, hc]

/-- Cells from a place on, in ghost memory. -/
def MRow (M : Mem) (b o : Nat) (cs : List Value) : Prop := ∀ j v, cs[j]? = some v → mcell M b (o + j) = some v
theorem mcell_mono {G G' : GS} (h : G.Le G') {b o : Nat} {v : Value} (hm : mcell G.M b o = some v) : mcell G'.M b o = some v := by
  unfold mcell at hm ⊢
  rcases e : G.M b with _ | ob
  · simp [e] at hm
  · rw [h.mem b ob e]; rw [e] at hm; exact hm
theorem MRow.mono {G G' : GS} (h : G.Le G') {b o : Nat} {cs : List Value} (hm : MRow G.M b o cs) : MRow G'.M b o cs := fun j v hv => mcell_mono h (hm j v hv)
theorem MRow.sub {M : Mem} {b o : Nat} {cs ds : List Value} (h : MRow M b o cs) (i : Nat) (hd : (cs.drop i).take ds.length = ds) : MRow M b (o + i) ds := by
  intro j v hv
  rw [Nat.add_assoc]
  refine h (i + j) v ?_
  rw [← hd] at hv
  have hlt : j < ds.length := by
    rcases Nat.lt_or_ge j ds.length with h1 | h1
    · exact h1
    · rw [List.getElem?_take_eq_none h1] at hv; cases hv
  rw [List.getElem?_take_of_lt hlt, List.getElem?_drop] at hv
  exact hv
theorem _root_.Go.Eng.Holds.rowM {G : GS} {H : List Chunk} (h : Holds G w H) {b o : Nat} {cs : List Value} (hm : MRow G.M b o cs) : ∀ j v, cs[j]? = some v → w.cell? ⟨b, o + j, none⟩ = some v :=
  fun j v hv => h.cellM (hm j v hv)
theorem _root_.Go.Eng.Holds.rowO {G : GS} {H : List Chunk} (h : Holds G w H) {b o : Nat} {c : Array Value} {T : TypeId} {fz : Nat × Nat} (hm : (b, Obj.cells c T fz) ∈ H.flatten) {cs : List Value}
    (hd : (c.toList.drop o).take cs.length = cs) : ∀ j v, cs[j]? = some v → w.cell? ⟨b, o + j, none⟩ = some v := by
  intro j v hv
  refine h.cellO hm ?_
  rw [← hd] at hv
  have hlt : j < cs.length := by
    rcases Nat.lt_or_ge j cs.length with h1 | h1
    · exact h1
    · rw [List.getElem?_take_eq_none h1] at hv; cases hv
  rw [List.getElem?_take_of_lt hlt, List.getElem?_drop] at hv
  simpa using hv

/-! ### New memory -/
theorem o_new {o : Op} {obj : Obj} {v : Value} (hr : ((execOp a.eval ⟨dst, o, ty, pos, af, g⟩)).run P w = .ok (.value v) (w.alloc obj)) (k : K (a.put dst v) (w.alloc obj)) :
    Oper.wp P ⟨dst, o, ty, pos, af, g⟩ a w K Q := o_val hr k

def zeroC (P : Program) (t : Nat) : Option (Array Value) := (P.info? t).bind fun i => i.zero.map (·.cells)
theorem run_zero {t : Nat} {cs : Array Value} (h : zeroC P t = some cs) (w : World) : ∃ z, (zeroValue t : Sem Value).run P w = .ok z w ∧ z.cells = cs := by
  unfold zeroC at h
  rcases hi : P.info? t with _ | i
  · simp [hi] at h
  · simp only [hi, Option.bind_some, Option.map_eq_some_iff] at h
    obtain ⟨z, hz, rfl⟩ := h
    exact ⟨z, by simp [zeroValue, typeInfo, hi, hz], rfl⟩
theorem o_alloc {T : Nat} {cs : Array Value} (h : zeroC P T = some cs) (k : K (a.put dst (.pointer (some ⟨w.heap.size, 0, none⟩))) (w.alloc (.cells cs T))) : Oper.wp P ⟨dst, .alloc T, ty, pos, af, g⟩ a w K Q := by
  refine o_val ?_ k
  obtain ⟨z, hz, rfl⟩ := run_zero h w
  simp [execOp, Instr.alloc, hz, newVar, newRow, newObj, Sem.run]
theorem o_box {T : Nat} {v : Value} (hx : a.eval x = v) (k : K (a.put dst (.pointer (some ⟨w.heap.size, 0, none⟩))) (w.alloc (.cells v.cells T))) : Oper.wp P ⟨dst, .box T x, ty, pos, af, g⟩ a w K Q := by
  refine o_val ?_ k
  simp [execOp, Instr.box, hx, newVar, newRow, newObj, Sem.run]

/-- A row of cells written from a place on. -/
def splice (c : Array Value) (o : Nat) : List Value → Array Value
  | [] => c
  | v :: r => splice (c.setIfInBounds o v) (o + 1) r
theorem splice_size : ∀ (vs : List Value) (c : Array Value) (o : Nat), (splice c o vs).size = c.size
  | [], _, _ => rfl
  | v :: r, c, o => by rw [splice, splice_size r]; simp

theorem _root_.Go.Eng.Holds.setCell {G : GS} {F : List Chunk} {c0 : Chunk} {j b : Nat} {c : Array Value} {T : TypeId} (h : Holds G w (c0 :: F)) (hj : c0[j]? = some (b, .cells c T (0, 0))) (o : Nat) (v : Value) :
    Holds G (w.setCell ⟨b, o, none⟩ v) (c0.set j (b, .cells (c.setIfInBounds o v) T (0, 0)) :: F) := by
  obtain ⟨hlt, hj'⟩ := List.getElem?_eq_some_iff.1 hj
  have hown : w.heap[b]? = some (.cells c T (0, 0)) := h.own (b, .cells c T (0, 0)) (by simp only [List.flatten_cons, List.mem_append]; exact .inl (hj' ▸ List.getElem_mem hlt))
  have hkeys : (c0.set j (b, Obj.cells (c.setIfInBounds o v) T (0, 0))).map (·.1) = c0.map (·.1) := by
    rw [List.map_set]
    refine List.ext_getElem? fun i => ?_
    rw [List.getElem?_set]
    split
    · rename_i e; subst e
      simp [hlt, hj']
    · rfl
  have hself : (w.setCell ⟨b, o, none⟩ v).heap[b]? = some (.cells (c.setIfInBounds o v) T (0, 0)) := by
    simp [World.setCell, Array.getElem?_modify, hown]
  refine h.turn rfl rfl rfl hkeys (fun k _ hk => Below.heap_setCell _ _ _ _ ?_) (fun p hp => ?_)
  · intro e
    exact hk (e ▸ List.mem_map.2 ⟨(b, .cells c T (0, 0)), hj' ▸ List.getElem_mem hlt, rfl⟩)
  · rcases List.mem_or_eq_of_mem_set hp with hp | rfl
    · by_cases e : p.1 = b
      · rw [e, hself]
        have hn := h.nodup
        simp only [List.flatten_cons, List.map_append] at hn
        have hn1 : ((c0.set j (b, Obj.cells (c.setIfInBounds o v) T (0, 0))).map (·.1)).Nodup := hkeys ▸ (List.nodup_append.1 hn).1
        have hx := find_nodup _ hn1 p (by assumption)
        have hy := find_nodup _ hn1 (b, Obj.cells (c.setIfInBounds o v) T (0, 0)) (List.mem_iff_getElem?.2 ⟨j, by rw [List.getElem?_set]; simp [hlt]⟩)
        rw [e] at hx
        simp only at hy
        rw [hx] at hy
        injection hy with hy
        rw [hy]
      · rw [Below.heap_setCell _ _ _ _ e]
        exact h.own p (by simp only [List.flatten_cons, List.mem_append]; exact .inl hp)
    · exact hself

theorem run_storeCells {G : GS} {F : List Chunk} {j b : Nat} {T : TypeId} (o : Nat) : ∀ (vs : List Value) (i : Nat) (w : World) (c0 : Chunk) (c : Array Value), Holds G w (c0 :: F) → c0[j]? = some (b, .cells c T (0, 0)) →
    o + i + vs.length ≤ c.size → vs.all Value.oneCell' = true →
    ∃ w', (storeCells ⟨b, o, none⟩ vs i).run P w = .ok () w' ∧ Holds G w' (c0.set j (b, .cells (splice c (o + i) vs) T (0, 0)) :: F)
  | [], i, w, c0, c, h, hj, _, _ => by
    refine ⟨w, rfl, ?_⟩
    obtain ⟨hlt, hj'⟩ := List.getElem?_eq_some_iff.1 hj
    have : c0.set j (b, .cells (splice c (o + i) []) T (0, 0)) = c0 := by rw [splice, ← hj']; exact List.set_getElem_self hlt
    rw [this]; exact h
  | v :: vs, i, w, c0, c, h, hj, hb, h1 => by
    obtain ⟨hlt, hj'⟩ := List.getElem?_eq_some_iff.1 hj
    have hown : w.heap[b]? = some (.cells c T (0, 0)) := h.own (b, .cells c T (0, 0)) (by simp only [List.flatten_cons, List.mem_append]; exact .inl (hj' ▸ List.getElem_mem hlt))
    simp only [List.length_cons] at hb
    simp only [List.all_cons, Bool.and_eq_true] at h1
    have hcell : w.cell? ⟨b, o + i, none⟩ = some (c[o + i]'(by omega)) := by
      simp only [World.cell?, hown]
      exact Array.getElem?_eq_getElem (by omega)
    have hfr : w.frozen? ⟨b, o + i, none⟩ = false := by
      simp [World.frozen?, hown]
    have hrun : ∀ k : Sem Unit, (Sem.store .plain ⟨b, o + i, none⟩ v k).run P w = k.run P (w.setCell ⟨b, o + i, none⟩ v) := by
      intro k
      have := h1.1
      cases v <;> simp [Value.oneCell'] at this <;> simp [Sem.run, hcell, hfr]
    have h2 := h.setCell hj (o + i) v
    have hj2 : (c0.set j (b, Obj.cells (c.setIfInBounds (o + i) v) T (0, 0)))[j]? = some (b, .cells (c.setIfInBounds (o + i) v) T (0, 0)) := by rw [List.getElem?_set]; simp [hlt]
    obtain ⟨w', hr, hh⟩ := run_storeCells (j := j) (b := b) (T := T) o vs (i + 1) (w.setCell ⟨b, o + i, none⟩ v) _ (c.setIfInBounds (o + i) v) h2 hj2 (by simp; omega) h1.2
    refine ⟨w', ?_, ?_⟩
    · simp only [storeCells, Sem.run_bind, add_mk, store, hrun]
      simp only [Sem.run, Result.andThen_ok, hr]
    · rw [List.set_set] at hh
      rw [splice]
      exact hh

theorem o_store {G : GS} {F : List Chunk} {c0 : Chunk} {j b o n : Nat} {c : Array Value} {T T' : TypeId} {x y : Operand} {v : Value} (hx : a.eval x = .pointer (some ⟨b, o, none⟩)) (hy : a.eval y = v)
    (hs : szOf P T = some n) (hn : v.cells.size = n) (h : Holds G w (c0 :: F)) (hj : c0[j]? = some (b, .cells c T' (0, 0))) (hb : o + n ≤ c.size) (h1 : v.cells.toList.all Value.oneCell' = true)
    (k : ∀ w', Holds G w' (c0.set j (b, .cells (splice c o v.cells.toList) T' (0, 0)) :: F) → K (a.put dst undef) w') : Oper.wp P ⟨dst, .store T x y, ty, pos, af, g⟩ a w K Q := by
  subst hn
  obtain ⟨w', hr, hh⟩ := run_storeCells (P := P) o v.cells.toList 0 w c0 c h hj (by simpa using hb) h1
  refine o_skip ?_ (k w' hh)
  simp [execOp, Instr.storeAt, Instr.sureAddr, hx, hy, storeVar, run_sizeOf hs, hr]

theorem splice_eq : ∀ (vs : List Value) (c : Array Value) (o : Nat), o + vs.length ≤ c.size → (splice c o vs).toList = c.toList.take o ++ vs ++ c.toList.drop (o + vs.length)
  | [], c, o, _ => by simp [splice]
  | v :: r, c, o, h => by
    simp only [List.length_cons] at h
    have hlt : o < c.toList.length := by simp; omega
    rw [splice, splice_eq r _ _ (by simp; omega), Array.toList_setIfInBounds]
    have e1 : (c.toList.set o v).take (o + 1) = c.toList.take o ++ [v] := by
      rw [List.take_add_one, List.take_set_of_le (Nat.le_refl _), List.getElem?_set_self hlt]; rfl
    rw [e1, List.drop_set_of_lt (by omega)]
    simp only [List.length_cons, List.append_assoc, List.singleton_append, List.cons_append]
    rw [show o + 1 + r.length = o + (r.length + 1) by omega]
    rfl

/-- As o_store; what the block then holds is given outright. -/
theorem o_storeL {G : GS} {F : List Chunk} {c0 : Chunk} {j b o n : Nat} {c : Array Value} {T T' : TypeId} {x y : Operand} {v : Value} (hx : a.eval x = .pointer (some ⟨b, o, none⟩)) (hy : a.eval y = v)
    (hs : szOf P T = some n) (hn : v.cells.size = n) (h : Holds G w (c0 :: F)) (hj : c0[j]? = some (b, .cells c T' (0, 0))) (hb : Nat.ble (o + n) c.size = true) (h1 : v.cells.toList.all Value.oneCell' = true)
    {cl : List Value} (hcl : c.toList.take o ++ v.cells.toList ++ c.toList.drop (o + n) = cl)
    (k : ∀ w', Holds G w' (c0.set j (b, .cells cl.toArray T' (0, 0)) :: F) → K (a.put dst undef) w') : Oper.wp P ⟨dst, .store T x y, ty, pos, af, g⟩ a w K Q := by
  have hb' := Nat.le_of_ble_eq_true hb
  refine o_store hx hy hs hn h hj hb' h1 (fun w' hh => k w' ?_)
  have e : splice c o v.cells.toList = cl.toArray := by
    rw [← hcl, ← hn]
    have := splice_eq v.cells.toList c o (by simp; omega)
    simp only [Array.length_toList] at this
    rw [← this]
  rw [e] at hh
  exact hh

/-! ### Calls -/
def okF (P : Program) (f : Nat) : Option (Bool × Bool) := (P.funcs[f]?).map fun fn => (fn.name == "runtime.NumGoroutine", fn.body.isNone)
theorem run_callFunc {f : Nat} (h : okF P f = some (false, false)) (args : Array Value) (w : World) : (callFunc f args).run P w = .ok (.enter f args) w := by
  unfold okF at h
  rcases hf : P.funcs[f]? with _ | fn
  · simp [hf] at h
  · simp only [hf, Option.map_some, Option.some.injEq, Prod.mk.injEq] at h
    have h1 : fn.name ≠ "runtime.NumGoroutine" := by simpa using h.1
    have h2 : fn.body ≠ none := by intro e; rw [e] at h; simp at h
    simp [callFunc, hf, h1, h2]
theorem map_eval {N : Nat} {L : List (Nat × Value)} (s : SF N a L) : ∀ (xs : List Operand) {vs : List Value}, xs.mapM (opv L) = some vs → xs.map a.eval = vs
  | [], vs, h => by simp at h; subst h; rfl
  | x :: xs, vs, h => by
    simp only [List.mapM_cons] at h
    rcases hx : opv L x with _ | v
    · simp [hx] at h
    · rcases hr : xs.mapM (opv L) with _ | r
      · simp [hx, hr] at h
      · simp [hx, hr] at h
        subst h
        simp [s.ev hx, map_eval s xs hr]
def opvs (L : List (Nat × Value)) : List Operand → Option (List Value)
  | [] => some []
  | x :: r => match opv L x with
    | some v => match opvs L r with
      | some vs => some (v :: vs)
      | none => none
    | none => none
theorem opvs_eval {N : Nat} {L : List (Nat × Value)} (s : SF N a L) : ∀ (xs : List Operand) {vs : List Value}, opvs L xs = some vs → xs.map a.eval = vs
  | [], vs, h => by simp [opvs] at h; subst h; rfl
  | x :: xs, vs, h => by
    simp only [opvs] at h
    rcases hx : opv L x with _ | v
    · simp [hx] at h
    · rcases hr : opvs L xs with _ | r
      · simp [hx, hr] at h
      · simp [hx, hr] at h
        subst h
        simp [s.ev hx, opvs_eval s xs hr]
theorem o_call {N f : Nat} {L : List (Nat × Value)} {xs : List Operand} {vs : List Value} {ta : Array TypeId} {R : Ending → World → Prop} (s : SF N a L) (hv : opvs L xs = some vs) (hf : okF P f = some (false, false))
    (hc : Calls P f vs.toArray w R) (k : ∀ e w', R e w' → ∃ v, e = .returned v ∧ K (a.put dst v) w') :
    Oper.wp P ⟨dst, .call { callee := .value (.func f), args := xs.toArray, argTypes := ta }, ty, pos, af, g⟩ a w K Q := by
  refine o_enter (f := f) (args := vs.toArray) (w' := w) ?_ (hc.mono k)
  have e := opvs_eval s xs hv
  simp [execOp, resolve, Act.eval, Deferred.ofValue, invoke]
  rw [run_callFunc hf]
  simp [← e]
end
end
end

/-! ### A region that draws its order: whatever the order, each operation once, each behind those that it waits for -/
def setD (D : Nat → Bool) (i : Nat) : Nat → Bool := fun j => bif Nat.beq j i then true else D j
theorem setD_self (D : Nat → Bool) (i : Nat) : setD D i i = true := by simp [setD]
theorem setD_ne (D : Nat → Bool) {i j : Nat} (h : j ≠ i) : setD D i j = D j := by
  have hb : Nat.beq j i = false := by
    cases hb : Nat.beq j i with
    | false => rfl
    | true => exact absurd (Nat.eq_of_beq_eq_true hb) h
  simp [setD, hb]

/-- Which operations an operation waits for. -/
def waits (o : Oper) : List Nat := o.after.toList.filterMap fun e => if Region.binds .any e then some e.on else none

structure Ready (l : List Oper) (D : Nat → Bool) (i : Nat) : Prop where
  todo : D i = false
  done : ∀ o, l[i]? = some o → ∀ j ∈ waits o, D j = true
  closed : ∀ k o, l[k]? = some o → D k = true → ∀ j ∈ waits o, D j = true

def StepOk (P : Program) (l : List Oper) (Q : Exit → Act → World → Prop) (J : (Nat → Bool) → Act → World → Prop) (i : Nat) (o : Oper) : Prop :=
  ∀ D a w, Ready l D i → J D a w → if Region.wanted o (yielded l.toArray a.tmps) = true then o.wp P a w (J (setD D i)) Q ∨ (o.asks P a w ∧ LetsOut Q) else J (setD D i) (a.put o.dst undef) w

def Steps (P : Program) (l : List Oper) (Q : Exit → Act → World → Prop) (J : (Nat → Bool) → Act → World → Prop) : Nat → List Oper → Prop
  | _, [] => True
  | i, o :: r => StepOk P l Q J i o ∧ Steps P l Q J (i + 1) r

def edgesUp (l : List Oper) : Bool := l.zipIdx.all fun p => (waits p.1).all fun j => Nat.blt j p.2

section
variable {P : Program} {Q : Exit → Act → World → Prop} {a : Act} {w : World} {l : List Oper} {J : (Nat → Bool) → Act → World → Prop}
theorem Steps.at : ∀ (r : List Oper) (i : Nat), Steps P l Q J i r → ∀ k o, r[k]? = some o → StepOk P l Q J (i + k) o
  | [], _, _, _, _, h => by simp at h
  | o :: r, i, hs, 0, o', h => by
    simp only [List.getElem?_cons_zero, Option.some.injEq] at h
    subst h
    exact hs.1
  | o :: r, i, hs, k + 1, o', h => by
    have := Steps.at r (i + 1) hs.2 k o' (by simpa using h)
    rw [show i + (k + 1) = i + 1 + k by omega]; exact this

theorem wpAny_J (hs : Steps P l Q J 0 l) (hup : edgesUp l = true) (hend : ∀ D a w, (∀ i, i < l.length → D i = true) → J D a w → Q .normal a w) :
    ∀ (fuel : Nat) (listed : Array Bool) (a : Act) (w : World), listed.size = l.length → (listed.toList.filter (! ·)).length ≤ fuel →
      (∀ k o, l[k]? = some o → listed.getD k false = true → ∀ j ∈ waits o, listed.getD j false = true) → J (fun i => listed.getD i false) a w → wpAny P .any l.toArray Q fuel listed a w := by
  have hfind : ∀ (listed : Array Bool), listed.size = l.length → Region.ready .any l.toArray listed = [] → ∀ i, i < l.length → listed.getD i false = true := by
    intro listed hsz hr i
    induction i using Nat.strongRecOn with
    | _ i ih =>
      intro hi
      rcases hb : listed.getD i false with _ | _
      · exfalso
        have hmem : i ∈ Region.ready .any l.toArray listed := by
          rw [mem_ready]
          refine ⟨?_, l[i], by simp [hi], ?_⟩
          · have hlt : i < listed.size := by omega
            simp only [Array.getD, hlt, dif_pos] at hb ⊢
            exact hb
          · intro e he hbi
            have hm : e.on ∈ waits l[i] := List.mem_filterMap.2 ⟨e, Array.mem_toList_iff.2 he, by simp [hbi]⟩
            have hlt : e.on < i := by
              have := List.all_eq_true.1 hup (l[i], i) (by rw [List.mem_iff_getElem?]; exact ⟨i, by simp [hi]⟩)
              have := List.all_eq_true.1 this e.on hm
              simpa [Nat.blt_eq] using this
            exact ih e.on hlt (by omega)
        rw [hr] at hmem
        cases hmem
      · rfl
  intro fuel
  induction fuel with
  | zero =>
    intro listed a w hsz hf hcl hJ
    have hall : ∀ i, i < l.length → listed.getD i false = true := by
      intro i hi
      have hlt : i < listed.size := by omega
      simp only [Array.getD, hlt, dif_pos]
      rcases hb : listed[i] with _ | _
      · exfalso
        have : false ∈ listed.toList.filter (! ·) := List.mem_filter.2 ⟨by rw [← hb]; simp, rfl⟩
        have := List.length_pos_of_mem this
        omega
      · exact hb
    refine ⟨?_, hend _ a w hall hJ⟩
    rw [List.eq_nil_iff_forall_not_mem]
    intro i hi
    rw [mem_ready] at hi
    obtain ⟨h1, o, ho, _⟩ := hi
    have hlt : i < l.length := by simpa using (Array.getElem?_eq_some_iff.1 ho).1
    have h2 := hall i hlt
    have hlt' : i < listed.size := by omega
    simp only [Array.getD, hlt', dif_pos] at h1 h2
    rw [h1] at h2; cases h2
  | succ fuel ih =>
    intro listed a w hsz hf hcl hJ
    refine ⟨fun hr => hend _ a w (hfind listed hsz hr) hJ, fun i hi => ?_⟩
    rw [mem_ready] at hi
    obtain ⟨h1, o, ho, hw⟩ := hi
    have hlt : i < l.length := by simpa using (Array.getElem?_eq_some_iff.1 ho).1
    have hlt' : i < listed.size := by omega
    have ho' : l[i]? = some o := by simpa using ho
    have hfalse : listed.getD i false = false := by
      simp only [Array.getD, hlt', dif_pos] at h1 ⊢; exact h1
    have hdone : ∀ j ∈ waits o, listed.getD j false = true := by
      intro j hj
      obtain ⟨e, he, hej⟩ := List.mem_filterMap.1 hj
      split at hej
      · rename_i hb
        injection hej with hej
        subst hej
        exact hw e (Array.mem_toList_iff.1 he) hb
      · cases hej
    have hstep := (Steps.at l 0 hs i o ho')
    rw [Nat.zero_add] at hstep
    have hset : (fun j => (listed.setIfInBounds i true).getD j false) = setD (fun j => listed.getD j false) i := by
      funext j
      by_cases e : j = i
      · subst e
        rw [setD_self]
        simp [Array.getD, hlt']
      · rw [setD_ne _ e]
        exact getD_set_ne _ (fun e' => e e'.symm)
    have hnext : ∀ a w, J (setD (fun j => listed.getD j false) i) a w → wpAny P .any l.toArray Q fuel (listed.setIfInBounds i true) a w := by
      intro a w hJ'
      refine ih _ a w (by simpa using hsz) ?_ ?_ (hset ▸ hJ')
      · have hcount : ∀ (L : List Bool) (k : Nat), L[k]? = some false → ((L.set k true).filter (! ·)).length + 1 = (L.filter (! ·)).length := by
          intro L
          induction L with
          | nil => intro k hk; simp at hk
          | cons x L ihL =>
            intro k hk
            cases k with
            | zero =>
              simp only [List.getElem?_cons_zero, Option.some.injEq] at hk
              subst hk
              simp
            | succ k =>
              have := ihL k (by simpa using hk)
              simp only [List.set_cons_succ, List.filter_cons]
              split
              · simp only [List.length_cons]; omega
              · exact this
        have := hcount listed.toList i (by
          rw [Array.getElem?_toList, Array.getElem?_eq_getElem hlt']
          simp only [Array.getD, hlt', dif_pos] at hfalse
          exact congrArg some hfalse)
        rw [Array.toList_setIfInBounds]
        omega
      · intro k o' hk hD j hj
        by_cases e : k = i
        · subst e
          have : o' = o := by rw [ho'] at hk; exact (Option.some.inj hk).symm
          subst this
          exact getD_set_true (hdone j hj)
        · rw [getD_set_ne _ (fun e' => e e'.symm)] at hD
          exact getD_set_true (hcl k o' hk hD j hj)
    have hR : Ready l (fun j => listed.getD j false) i := ⟨hfalse, fun o'' ho'' => by rw [ho'] at ho''; injection ho'' with e; subst e; exact hdone, hcl⟩
    have := hstep _ a w hR hJ
    unfold wpOp
    rw [ho]
    simp only
    split
    · rename_i hwt
      rw [if_pos hwt] at this
      exact this.imp (Oper.wp_mono hnext) id
    · rename_i hwt
      rw [if_neg hwt] at this
      exact hnext _ _ this

theorem region_J {id : Nat} (hm : P.follows .mixedOrders = true) (hup : edgesUp l = true) (h0 : J (fun _ => false) a { w with drawn := w.drawn + 1 }) (hs : Steps P l Q J 0 l)
    (hend : ∀ D a w, (∀ i, i < l.length → D i = true) → J D a w → Q .normal a w) : (Code.region id l.toArray true).wp P Q a w := by
  refine wp_region_any hm ?_
  refine wpAny_J hs hup hend _ _ a _ (by simp) ?_ ?_ ?_
  · simp only [Array.toList_replicate, List.size_toArray]
    exact Nat.le_trans (List.length_filter_le _ _) (by simp)
  · intro k o _ hD
    simp [Array.getD] at hD
  · have : (fun i => (Array.replicate l.toArray.size false).getD i false) = fun _ => false := by
      funext i
      simp [Array.getD]
    rw [this]; exact h0
end
end Go.Eng
