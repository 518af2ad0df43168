/- The engine's laws for branches, loops, returns, rows that are appended to, and readings. No condition: plain lemmas. -/
import Derived.Test.YtkahniffcehicaaOps
import Derived.Maps.AppendAt
namespace Go.Eng
open Go Go.RowKit

section
variable {P : Program} {ops : Array Oper} {Q : Exit → Act → World → Prop} {K : Act → World → Prop} {a : Act} {w : World} {fn : Func} {R : Ending → World → Prop}

/-! ### Where a piece of code ends -/
theorem x_then_n (h : K a w) : Exit.then K Q .normal a w := h
theorem x_then_x {i : Nat} (h : Q (.exit i) a w) : Exit.then K Q (.exit i) a w := h
theorem x_then_r (h : Q .ret a w) : Exit.then K Q .ret a w := h
theorem x_blk_n {i : Nat} (h : Q .normal a w) : Exit.inBlock i Q .normal a w := h
theorem x_blk_x {i : Nat} (h : Q .normal a w) : Exit.inBlock i Q (.exit i) a w := by simp only [Exit.inBlock, if_true]; exact h
theorem x_blk_y {i j : Nat} (hne : Nat.beq j i = false) (h : Q (.exit j) a w) : Exit.inBlock i Q (.exit j) a w := by
  have : ¬ j = i := fun e => by subst e; simp at hne
  simp only [Exit.inBlock, if_neg this]; exact h
theorem x_blk_r {i : Nat} (h : Q .ret a w) : Exit.inBlock i Q .ret a w := h

theorem q_if {N : Nat} {L : List (Nat × Value)} {c : Operand} {x y : Code} {b : Bool} (s : SF N a L) (hc : opv L c = some (.bool b)) (ht : b = true → x.wp P Q a w) (hf : b = false → y.wp P Q a w) : (Code.cond c x y).wp P Q a w :=
  wp_cond_split (s.ev hc) ht hf
theorem q_ifd {N : Nat} {L : List (Nat × Value)} {c : Operand} {x y : Code} {p : Prop} [Decidable p] (s : SF N a L) (hc : opv L c = some (.bool (decide p))) (ht : p → x.wp P Q a w) (hf : ¬ p → y.wp P Q a w) : (Code.cond c x y).wp P Q a w :=
  wp_cond_split (s.ev hc) (fun h => ht (of_decide_eq_true h)) (fun h => hf (of_decide_eq_false h))
theorem q_ifnd {N : Nat} {L : List (Nat × Value)} {c : Operand} {x y : Code} {p : Prop} [Decidable p] (s : SF N a L) (hc : opv L c = some (.bool (!decide p))) (ht : ¬ p → x.wp P Q a w) (hf : p → y.wp P Q a w) : (Code.cond c x y).wp P Q a w :=
  wp_cond_split (s.ev hc) (fun h => ht (by simpa using h)) (fun h => hf (by simpa using h))
theorem q_ift {N : Nat} {L : List (Nat × Value)} {c : Operand} {x y : Code} {b : Bool} (s : SF N a L) (hc : opv L c = some (.bool b)) (hb : b = true) (ht : x.wp P Q a w) : (Code.cond c x y).wp P Q a w :=
  wp_cond_true (by rw [s.ev hc, hb]) ht
theorem q_iff {N : Nat} {L : List (Nat × Value)} {c : Operand} {x y : Code} {b : Bool} (s : SF N a L) (hc : opv L c = some (.bool b)) (hb : b = false) (hf : y.wp P Q a w) : (Code.cond c x y).wp P Q a w :=
  wp_cond_false (by rw [s.ev hc, hb]) hf

/-- Code, then code: what holds between is named. -/
theorem seq_cut {x y : Code} (J : Act → World → Prop) (hx : x.wp P (Exit.then J Q) a w) (hy : ∀ a w, J a w → y.wp P Q a w) : (Code.seq x y).wp P Q a w :=
  wp_seq (Code.wp_mono (fun e a w h => by cases e <;> first | exact hy _ _ h | exact h) hx)

/-! ### Returns -/
theorem fin1 {N t : Nat} {L : List (Nat × Value)} {v : Value} (s : SF N a L) (hr : fn.results = #[.tmp t]) (hv : lk L t = some v) (h : R (.returned v) w) : bodyPost P fn R .ret a w :=
  ⟨s.defers, v, by rw [results_tmp hr, s.at_ t v hv], h⟩
theorem fin0 {N : Nat} {L : List (Nat × Value)} (s : SF N a L) (hr : fn.results = #[]) (h : R (.returned (.tuple #[])) w) : bodyPost P fn R .ret a w :=
  ⟨s.defers, _, results_none hr _ _ _, h⟩
theorem fin0n {N : Nat} {L : List (Nat × Value)} (s : SF N a L) (hr : fn.results = #[]) (h : R (.returned (.tuple #[])) w) : bodyPost P fn R .normal a w :=
  ⟨s.defers, _, results_none hr _ _ _, h⟩
theorem fin2 {N t u : Nat} {L : List (Nat × Value)} {v z : Value} (s : SF N a L) (hr : fn.results = #[.tmp t, .tmp u]) (hv : lk L t = some v) (hz : lk L u = some z) (h : R (.returned (.tuple #[v, z])) w) : bodyPost P fn R .ret a w :=
  ⟨s.defers, _, by rw [results_tmp2 hr, s.at_ t v hv, s.at_ u z hz], h⟩
theorem run_loadVarAgg {T b o n : Nat} {cs : List Value} (hag : isAg P T = some true) (hs : szOf P T = some n) (hl : cs.length = n)
    (hc : ∀ j v, cs[j]? = some v → w.cell? ⟨b, o + j, none⟩ = some v) : (loadVar T ⟨b, o, none⟩).run P w = .ok (.agg cs.toArray) w := by
  subst hl
  have := run_loadCells (P := P) (w := w) b o cs 0 #[] (fun j v hv => by simpa using hc j v hv)
  simp [loadVar, run_isAgg hag, run_sizeOf hs, loadCells, this]
theorem run_loadVarOne {T b o : Nat} {v : Value} (hag : isAg P T = some false) (hc : w.cell? ⟨b, o, none⟩ = some v) : (loadVar T ⟨b, o, none⟩).run P w = .ok v w := by
  simp [loadVar, run_isAgg hag, load, Sem.run, hc]
theorem finc {N t T b o : Nat} {L : List (Nat × Value)} {v : Value} (s : SF N a L) (hr : fn.results = #[.cell t T]) (ht : lk L t = some (.pointer (some ⟨b, o, none⟩))) (hv : (loadVar T ⟨b, o, none⟩).run P w = .ok v w)
    (h : R (.returned v) w) : bodyPost P fn R .ret a w := by
  refine ⟨s.defers, v, ?_, h⟩
  have e : a.tmps[t]?.getD undef = .pointer (some ⟨b, o, none⟩) := by simpa using s.at_ t _ ht
  simp [results, hr, e, asAddr, hv]
theorem finct {N t T b o u : Nat} {L : List (Nat × Value)} {v z : Value} (s : SF N a L) (hr : fn.results = #[.cell t T, .tmp u]) (ht : lk L t = some (.pointer (some ⟨b, o, none⟩))) (hv : (loadVar T ⟨b, o, none⟩).run P w = .ok v w)
    (hz : lk L u = some z) (h : R (.returned (.tuple #[v, z])) w) : bodyPost P fn R .ret a w := by
  refine ⟨s.defers, _, ?_, h⟩
  have e : a.tmps[t]?.getD undef = .pointer (some ⟨b, o, none⟩) := by simpa using s.at_ t _ ht
  have e' : a.tmps[u]?.getD undef = z := by simpa using s.at_ u _ hz
  simp [results, hr, e, e', asAddr, hv]

/-- How a function is entered. -/
theorem enter {f : FuncId} {c : Code} {args : List Value} {N : Nat} {L : List (Nat × Value)} (hL : args.zipIdx.map (fun p => (p.2, p.1)) = L) (hf : P.funcs[f]? = some fn) (hb : fn.body = some c) (hN : fn.ntmps = N) (hl : Nat.ble args.length N = true)
    (h : ∀ a, SF N a L → c.wp P (bodyPost P fn R) a w) : Calls P f args.toArray w R := by
  subst hN
  subst hL
  refine calls_of_wp hf hb ?_
  refine h _ ?_
  have := SF.enter fn.ntmps args (by simpa using Nat.le_of_ble_eq_true hl)
  simpa using this
end

/-! ### Wraps that do nothing -/
theorem wrap_i64 {z : Int} (h1 : -9223372036854775808 ≤ z) (h2 : z ≤ 9223372036854775807) : IntKind.i64.wrap z = z := IntWalk.i64_in z ⟨h1, h2⟩
theorem wrap_i32 {z : Int} (h1 : -2147483648 ≤ z) (h2 : z ≤ 2147483647) : IntKind.i32.wrap z = z := IntWalk.i32_in z ⟨h1, h2⟩
theorem wrap_u8 {z : Int} (h1 : 0 ≤ z) (h2 : z ≤ 255) : IntKind.u8.wrap z = z := IntWalk.u8_in z ⟨h1, h2⟩
theorem wrap_u16 {z : Int} (h1 : 0 ≤ z) (h2 : z ≤ 65535) : IntKind.u16.wrap z = z := IntWalk.u16_in z ⟨h1, h2⟩
theorem wrap_u32 {z : Int} (h1 : 0 ≤ z) (h2 : z ≤ 4294967295) : IntKind.u32.wrap z = z := IntWalk.u32_in z ⟨h1, h2⟩
theorem wrap_u64 {z : Int} (h1 : 0 ≤ z) (h2 : z ≤ 18446744073709551615) : IntKind.u64.wrap z = z := IntWalk.u64_in z ⟨h1, h2⟩

/-! ### Contracts: what a call gives back, and what it may have turned -/
/-- It answers 'v' with 'post'; the frame 'F' is held as before; ghost memory may have grown. -/
def Ret (G : GS) (F : List Chunk) (post : GS → Value → Prop) : Ending → World → Prop :=
  fun e w' => ∃ v G', e = .returned v ∧ G.Le G' ∧ Holds G' w' F ∧ post G' v
/-- The same, with a chunk of the caller's own turned (or made). -/
def RetO (G : GS) (F : List Chunk) (post : GS → Value → Chunk → Prop) : Ending → World → Prop :=
  fun e w' => ∃ v G' c', e = .returned v ∧ G.Le G' ∧ Holds G' w' (c' :: F) ∧ post G' v c'

/-! ### A row of the call's own -/
structure Row (E size : Nat) (ao : Option Addr) (n cap : Nat) (xs : List Value) (c : Chunk) : Prop where
  len : xs.length = n * size
  form : (ao = none ∧ n = 0 ∧ cap = 0 ∧ c = []) ∨ ∃ g cur, ao = some ⟨g, 0, none⟩ ∧ c = [(g, .cells cur E (0, 0))] ∧ n ≤ cap ∧ cap ≤ maxLen ∧ cur.size = cap * size ∧ cur.toList.take (n * size) = xs

theorem Row.nil (E size : Nat) : Row E size none 0 0 [] [] := ⟨by simp, .inl ⟨rfl, rfl, rfl, rfl⟩⟩
theorem Row.owns {G : GS} {w : World} {F : List Chunk} {E size n cap : Nat} {ao : Option Addr} {xs : List Value} {c : Chunk} (r : Row E size ao n cap xs c) (h : Holds G w (c :: F)) : w.ownsRow 0 E size (.slice ao n cap) n xs := by
  refine ⟨r.len, ?_⟩
  rcases r.form with ⟨rfl, rfl, rfl, rfl⟩ | ⟨g, cur, rfl, rfl, h1, h2, h3, h4⟩
  · exact .inl ⟨rfl, rfl⟩
  · exact .inr ⟨g, cap, cur, rfl, Nat.zero_le _, h.own (g, .cells cur E (0, 0)) (by simp), h1, h2, h3, h4⟩

theorem Holds.regrow {G : GS} {w w' : World} {F : List Chunk} {c : Chunk} {row : Option Nat} (h : Holds G w (c :: F)) (hg : w.grownBy w' row) (hrow : ∀ g, row = some g → g ∈ c.map (·.1)) {g : Nat} {o : Obj}
    (hw : w'.heap[g]? = some o) (hgc : row = some g ∨ w.heap.size ≤ g) : Holds G w' ([(g, o)] :: F) := by
  have hF := h.drop
  have hn := h.nodup
  simp only [List.flatten_cons, List.map_append] at hn
  have hd := (List.nodup_append.1 hn).2.2
  have hkeep : ∀ b, b < w.heap.size → b ∉ c.map (·.1) → w'.heap[b]? = w.heap[b]? := fun b hb hbc => hg.block b hb (fun e => hbc (hrow b e.symm))
  have hmem : ∀ b o', G.M b = some o' → b ∉ c.map (·.1) := by
    intro b o' hb hm
    obtain ⟨p, hp, rfl⟩ := List.mem_map.1 hm
    have := h.apart p (by simp only [List.flatten_cons, List.mem_append]; exact .inl hp)
    rw [this] at hb; cases hb
  refine ⟨hg.os.trans h.os, hg.tape.trans h.tape, hg.output.trans h.output, fun b o' hb => ?_, fun p hp => ?_, ?_, fun p hp => ?_⟩
  · have := h.mem b o' hb
    rw [hkeep b (lt_of_heap this) (hmem b o' hb)]; exact this
  · simp only [List.flatten_cons, List.cons_append, List.nil_append, List.mem_cons] at hp
    rcases hp with rfl | hp
    · exact hw
    · have := hF.own p hp
      rw [hkeep p.1 (lt_of_heap this) (fun hm => hd _ hm _ (List.mem_map_of_mem hp) rfl)]; exact this
  · simp only [List.flatten_cons, List.cons_append, List.nil_append, List.map_cons, List.nodup_cons]
    refine ⟨fun hm => ?_, hF.nodup⟩
    obtain ⟨p, hp, e⟩ := List.mem_map.1 hm
    rcases hgc with hr | hr
    · exact hd _ (hrow g hr) _ (List.mem_map_of_mem hp) e.symm
    · have := lt_of_heap (hF.own p hp); omega
  · simp only [List.flatten_cons, List.cons_append, List.nil_append, List.mem_cons] at hp
    rcases hp with rfl | hp
    · rcases e : G.M g with _ | o'
      · rfl
      · rcases hgc with hr | hr
        · exact absurd (hrow g hr) (hmem g o' e)
        · have := lt_of_heap (h.mem g o' e); omega
    · exact hF.apart p hp

theorem run_append {P : Program} {G : GS} {w : World} {F : List Chunk} {E size n cap : Nat} {ao : Option Addr} {xs : List Value} {c : Chunk} (r : Row E size ao n cap xs c) (h : Holds G w (c :: F))
    {t ty : TypeId} {i : TypeInfo} {z : Value} (ht : P.underlying t = some (.slice E)) (hi : P.info? E = some i) (hz : i.zero = some z) (hsize : i.size = size) (hzs : z.cells.size = size) (hsz : 0 < size)
    {b o m k : Nat} {news : List Value} (hl : news.length = m * size) (hnews : ∀ j u, news[j]? = some u → w.cell? ⟨b, o + j, none⟩ = some u) (h1 : news.all Value.oneCell' = true)
    (h63 : n + m ≤ maxLen) (hbytes : (n + m) * i.bytes ≤ 140737488355328) :
    ∃ ao' cap' c' w', (Builtin.append_ #[t, t] ty #[.slice ao n cap, .slice (some ⟨b, o, none⟩) m k]).run P w = .ok (.slice ao' (n + m) cap') w' ∧ Row E size ao' (n + m) cap' (xs ++ news) c' ∧ Holds G w' (c' :: F) := by
  obtain ⟨v', w', hrun, hown, hgrow, hnil, hat⟩ := run_append_own_at (P := P) w 0 t ty E i z size i.bytes ht hi hz hsize rfl hzs hsz (.slice ao n cap) n xs (r.owns h) ⟨b, o, none⟩ m k news hl
    (fun j u hu => by rw [add_mk]; exact hnews j u hu) (fun u hu => List.all_eq_true.1 h1 u hu) h63 hbytes (Nat.zero_le _)
  have hlen := hown.1
  have hrow : ∀ g, (Value.slice ao n cap).ownBlock = some g → g ∈ c.map (·.1) := by
    intro g hg
    rcases r.form with ⟨rfl, rfl, rfl, rfl⟩ | ⟨g', cur, rfl, rfl, _⟩
    · simp [Value.ownBlock] at hg
    · simp [Value.ownBlock] at hg; subst hg; simp
  rcases hown.2 with ⟨rfl, hz0⟩ | ⟨g, cap', cur, rfl, _, hheap, h2, h3, h4, h5⟩
  · obtain ⟨hv, hm0⟩ := hnil.1 rfl
    injection hv with e1 e2 e3
    subst e1; subst e2; subst e3; subst hm0
    rcases r.form with ⟨_, _, _, rfl⟩ | ⟨g, cur, hc, _⟩
    · refine ⟨none, 0, [], w', hrun, ⟨hlen, .inl ⟨rfl, rfl, rfl, rfl⟩⟩, ?_⟩
      have : ∀ b, b < w.heap.size → w'.heap[b]? = w.heap[b]? := fun b hb => hgrow.block b hb (by simp [Value.ownBlock])
      exact h.turn hgrow.os hgrow.tape hgrow.output rfl (fun b hb _ => this b hb) (fun p hp => by simp at hp)
    · cases hc
  · refine ⟨some ⟨g, 0, none⟩, cap', [(g, .cells cur E (0, 0))], w', hrun, ⟨hlen, .inr ⟨g, cur, rfl, rfl, h2, h3, h4, h5⟩⟩, ?_⟩
    refine h.regrow hgrow hrow hheap ?_
    rcases hat with e | e
    · exact .inl (by rw [← e]; rfl)
    · simp [Value.ownBlock] at e
      exact .inr (by omega)
end Go.Eng
