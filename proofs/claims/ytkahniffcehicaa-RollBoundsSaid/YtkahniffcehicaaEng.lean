/- The engine's ground, for any program: a ghost memory, owned chunks, slot facts, one law for each operation. No condition: plain lemmas. -/
import Derived.WalkKit
namespace Go.Eng
open Go Go.RowKit

/-! ### The ghost memory and what is owned -/
abbrev Mem := Nat → Option Obj

structure GS where
  M : Mem
  os : Os
  tape : Nat → Question → Nat
  output : Array (Nat × ByteArray)

def GS.of (w : World) : GS := ⟨fun b => w.heap[b]?, w.os, w.tape, w.output⟩

structure GS.Le (G G' : GS) : Prop where
  os : G'.os = G.os
  tape : G'.tape = G.tape
  output : G'.output = G.output
  mem : ∀ b o, G.M b = some o → G'.M b = some o

theorem GS.Le.refl (G : GS) : G.Le G := ⟨rfl, rfl, rfl, fun _ _ h => h⟩
theorem GS.Le.trans {a b c : GS} (h : a.Le b) (k : b.Le c) : a.Le c :=
  ⟨k.os.trans h.os, k.tape.trans h.tape, k.output.trans h.output, fun x o e => k.mem x o (h.mem x o e)⟩

abbrev Chunk := List (Nat × Obj)

structure Holds (G : GS) (w : World) (H : List Chunk) : Prop where
  os : w.os = G.os
  tape : w.tape = G.tape
  output : w.output = G.output
  mem : ∀ b o, G.M b = some o → w.heap[b]? = some o
  own : ∀ p ∈ H.flatten, w.heap[p.1]? = some p.2
  nodup : (H.flatten.map (·.1)).Nodup
  apart : ∀ p ∈ H.flatten, G.M p.1 = none

theorem lt_of_heap {w : World} {b : Nat} {o : Obj} (h : w.heap[b]? = some o) : b < w.heap.size := by
  rcases Nat.lt_or_ge b w.heap.size with hlt | hge
  · exact hlt
  · rw [Array.getElem?_eq_none hge] at h; cases h

theorem Holds.start (w : World) : Holds (GS.of w) w [] :=
  ⟨rfl, rfl, rfl, fun _ _ h => h, fun _ h => by simp at h, by simp, fun _ h => by simp at h⟩

theorem Holds.below {W w : World} {G : GS} {H : List Chunk} (hg : (GS.of W).Le G) (h : Holds G w H) : Below W.heap.size W w := by
  have hb : ∀ k, k < W.heap.size → w.heap[k]? = W.heap[k]? := by
    intro k hk
    have e : W.heap[k]? = some W.heap[k] := Array.getElem?_eq_getElem hk
    rw [e]
    exact h.mem k _ (hg.mem k _ e)
  refine ⟨h.os.trans hg.os, h.tape.trans hg.tape, h.output.trans hg.output, ?_, hb⟩
  rcases Nat.eq_zero_or_pos W.heap.size with h0 | h0
  · omega
  · have hk := hb (W.heap.size - 1) (by omega)
    rw [Array.getElem?_eq_getElem (show W.heap.size - 1 < W.heap.size by omega)] at hk
    have := lt_of_heap hk
    omega

theorem Holds.drew {G : GS} {w : World} {H : List Chunk} (h : Holds G w H) : Holds G w.drew H :=
  ⟨h.os, h.tape, h.output, h.mem, h.own, h.nodup, h.apart⟩
theorem Holds.drawn {G : GS} {w : World} {H : List Chunk} (h : Holds G w H) : Holds G { w with drawn := w.drawn + 1 } H :=
  ⟨h.os, h.tape, h.output, h.mem, h.own, h.nodup, h.apart⟩

theorem Holds.perm {G : GS} {w : World} {H H' : List Chunk} (h : Holds G w H) (p : H'.flatten.Perm H.flatten) : Holds G w H' :=
  ⟨h.os, h.tape, h.output, h.mem, fun x hx => h.own x (p.mem_iff.1 hx), ((p.map (·.1)).nodup_iff).2 h.nodup, fun x hx => h.apart x (p.mem_iff.1 hx)⟩

theorem erase_perm {α : Type} : ∀ (H : List α) (i : Nat) {c : α}, H[i]? = some c → (c :: H.eraseIdx i).Perm H
  | [], i, c, h => by simp at h
  | x :: H, 0, c, h => by
    simp only [List.getElem?_cons_zero, Option.some.injEq] at h
    subst h
    simp
  | x :: H, i + 1, c, h => by
    simp only [List.getElem?_cons_succ] at h
    simp only [List.eraseIdx_cons_succ]
    exact (List.Perm.swap x c _).trans ((erase_perm H i h).cons x)

/-- The i-th chunk to the front. -/
theorem Holds.front {G : GS} {w : World} {H : List Chunk} (h : Holds G w H) (i : Nat) {c : Chunk} (hc : H[i]? = some c) : Holds G w (c :: H.eraseIdx i) := by
  refine h.perm ?_
  have hp : (c :: H.eraseIdx i).Perm H := by
    exact erase_perm H i hc
  exact hp.flatten

theorem Holds.drop {G : GS} {w : World} {c : Chunk} {H : List Chunk} (h : Holds G w (c :: H)) : Holds G w H := by
  refine ⟨h.os, h.tape, h.output, h.mem, fun x hx => h.own x (by simp only [List.flatten_cons, List.mem_append]; exact .inr hx), ?_, fun x hx => h.apart x (by simp only [List.flatten_cons, List.mem_append]; exact .inr hx)⟩
  have := h.nodup
  simp only [List.flatten_cons, List.map_append] at this
  exact (List.nodup_append.1 this).2.1

/-- A new block. -/
theorem Holds.alloc {G : GS} {w : World} {H : List Chunk} (h : Holds G w H) (o : Obj) : Holds G (w.alloc o) ([(w.heap.size, o)] :: H) := by
  have hlt : ∀ p ∈ H.flatten, p.1 < w.heap.size := fun p hp => lt_of_heap (h.own p hp)
  refine ⟨h.os, h.tape, h.output, fun b o' hb => ?_, fun p hp => ?_, ?_, fun p hp => ?_⟩
  · have := h.mem b o' hb
    rw [Below.heap_alloc _ _ _ (lt_of_heap this)]; exact this
  · simp only [List.flatten_cons, List.cons_append, List.nil_append, List.mem_cons] at hp
    rcases hp with rfl | hp
    · exact heap_alloc_new w o
    · rw [Below.heap_alloc _ _ _ (hlt p hp)]; exact h.own p hp
  · simp only [List.flatten_cons, List.cons_append, List.nil_append, List.map_cons, List.nodup_cons]
    refine ⟨fun hm => ?_, h.nodup⟩
    obtain ⟨p, hp, e⟩ := List.mem_map.1 hm
    have := hlt p hp
    omega
  · simp only [List.flatten_cons, List.cons_append, List.nil_append, List.mem_cons] at hp
    rcases hp with rfl | hp
    · rcases hM : G.M w.heap.size with _ | o'
      · rfl
      · have := lt_of_heap (h.mem _ _ hM); omega
    · exact h.apart p hp

/-- What turns one chunk alone, block for block. -/
theorem Holds.turn {G : GS} {w w' : World} {c c' : Chunk} {H : List Chunk} (h : Holds G w (c :: H)) (hos : w'.os = w.os) (ht : w'.tape = w.tape) (ho : w'.output = w.output)
    (hk : c'.map (·.1) = c.map (·.1)) (hel : ∀ b, b < w.heap.size → b ∉ c.map (·.1) → w'.heap[b]? = w.heap[b]?) (hc : ∀ p ∈ c', w'.heap[p.1]? = some p.2) : Holds G w' (c' :: H) := by
  have hn := h.nodup
  simp only [List.flatten_cons, List.map_append] at hn
  have hd := (List.nodup_append.1 hn).2.2
  refine ⟨hos.trans h.os, ht.trans h.tape, ho.trans h.output, fun b o hb => ?_, fun p hp => ?_, ?_, fun p hp => ?_⟩
  · have hw := h.mem b o hb
    rw [hel b (lt_of_heap hw)]; exact hw
    intro hm
    obtain ⟨p, hp, rfl⟩ := List.mem_map.1 hm
    have := h.apart p (by simp only [List.flatten_cons, List.mem_append]; exact .inl hp)
    rw [this] at hb; cases hb
  · simp only [List.flatten_cons, List.mem_append] at hp
    rcases hp with hp | hp
    · exact hc p hp
    · have hw := h.own p (by simp only [List.flatten_cons, List.mem_append]; exact .inr hp)
      rw [hel p.1 (lt_of_heap hw)]; exact hw
      intro hm
      exact hd _ hm _ (List.mem_map_of_mem hp) rfl
  · simp only [List.flatten_cons, List.map_append, hk]; exact hn
  · simp only [List.flatten_cons, List.mem_append] at hp
    rcases hp with hp | hp
    · have : p.1 ∈ c.map (·.1) := hk ▸ List.mem_map_of_mem hp
      obtain ⟨q, hq, e⟩ := List.mem_map.1 this
      rw [← e]; exact h.apart q (by simp only [List.flatten_cons, List.mem_append]; exact .inl hq)
    · exact h.apart p (by simp only [List.flatten_cons, List.mem_append]; exact .inr hp)

/-- A chunk that is not written any more becomes ghost memory. -/
def GS.add (G : GS) (c : Chunk) : GS := { G with M := fun b => match G.M b with | some o => some o | none => (c.find? (·.1 == b)).map (·.2) }

theorem find_nodup : ∀ (c : Chunk), (c.map (·.1)).Nodup → ∀ p ∈ c, c.find? (·.1 == p.1) = some p
  | [], _, _, h => by simp at h
  | q :: c, hn, p, h => by
    simp only [List.map_cons, List.nodup_cons] at hn
    simp only [List.find?_cons]
    rcases List.mem_cons.1 h with rfl | h
    · simp
    · have : (q.1 == p.1) = false := by
        rw [beq_eq_false_iff_ne]
        intro e
        exact hn.1 (e ▸ List.mem_map_of_mem h)
      rw [this]
      exact find_nodup c hn.2 p h

theorem Holds.toG {G : GS} {w : World} {c : Chunk} {H : List Chunk} (h : Holds G w (c :: H)) : G.Le (G.add c) ∧ Holds (G.add c) w H ∧ ∀ p ∈ c, (G.add c).M p.1 = some p.2 := by
  have hn := h.nodup
  simp only [List.flatten_cons, List.map_append] at hn
  obtain ⟨hn1, _, hd⟩ := List.nodup_append.1 hn
  have hM : ∀ p ∈ c, (G.add c).M p.1 = some p.2 := by
    intro p hp
    have := h.apart p (by simp only [List.flatten_cons, List.mem_append]; exact .inl hp)
    simp only [GS.add, this, find_nodup c hn1 p hp, Option.map_some]
  refine ⟨⟨rfl, rfl, rfl, fun b o hb => by simp [GS.add, hb]⟩, ⟨h.os, h.tape, h.output, fun b o hb => ?_, h.drop.own, h.drop.nodup, fun p hp => ?_⟩, hM⟩
  · rcases e : G.M b with _ | o'
    · simp only [GS.add, e, Option.map_eq_some_iff] at hb
      obtain ⟨p, hf, rfl⟩ := hb
      have hm := List.mem_of_find?_eq_some hf
      have he : p.1 = b := by simpa using List.find?_some hf
      rw [← he]
      exact h.own p (by simp only [List.flatten_cons, List.mem_append]; exact .inl hm)
    · have : o' = o := by simpa [GS.add, e] using hb
      subst this
      exact h.mem b _ e
  · have h1 := h.drop.apart p hp
    simp only [GS.add, h1, Option.map_eq_none_iff, List.find?_eq_none]
    intro q hq
    simp only [beq_iff_eq]
    intro e
    exact hd _ (List.mem_map_of_mem hq) _ (List.mem_map_of_mem hp) e

/-! ### Slot facts -/
def lk : List (Nat × Value) → Nat → Option Value
  | [], _ => none
  | (k, v) :: r, t => bif Nat.beq t k then some v else lk r t

structure SF (N : Nat) (a : Act) (L : List (Nat × Value)) : Prop where
  size : a.tmps.size = N
  defers : a.defers = []
  at_ : ∀ t v, lk L t = some v → a.tmps.getD t undef = v

def opv (L : List (Nat × Value)) : Operand → Option Value
  | .tmp t => lk L t
  | .const v => some v
  | .global g => some (.pointer (some ⟨g, 0, none⟩))
  | .func f => some (.func (.func f) #[] #[])

theorem SF.ev {N : Nat} {a : Act} {L : List (Nat × Value)} (s : SF N a L) {x : Operand} {v : Value} (h : opv L x = some v) : a.eval x = v := by
  cases x with
  | tmp t => exact s.at_ t v h
  | const c => simpa [opv, Act.eval] using h
  | global g => simpa [opv, Act.eval] using h
  | func f => simpa [opv, Act.eval] using h

theorem SF.put {N : Nat} {a : Act} {L : List (Nat × Value)} (s : SF N a L) (d : Nat) (hd : Nat.blt d N = true) (v : Value) : SF N (a.put (some d) v) ((d, v) :: L) := by
  have hd' : d < N := by simpa [Nat.blt_eq] using hd
  refine ⟨by simpa [Act.put] using s.size, s.defers, fun t u h => ?_⟩
  simp only [Act.put]
  by_cases e : t = d
  · subst e
    simp only [lk, Nat.beq_refl, cond_true, Option.some.injEq] at h
    subst h
    have := s.size
    simp [Array.getD, this, hd']
  · have hb : Nat.beq t d = false := by
      cases hb : Nat.beq t d with
      | false => rfl
      | true => exact absurd (Nat.eq_of_beq_eq_true hb) e
    simp only [lk, hb, cond_false] at h
    rw [← s.at_ t u h]
    simp only [Array.getD, Array.size_setIfInBounds]
    split
    · simp only [Array.getInternal_eq_getElem]
      rw [Array.getElem_setIfInBounds_ne]
      exact fun e' => e e'.symm
    · rfl
theorem SF.put0 {N : Nat} {a : Act} {L : List (Nat × Value)} (s : SF N a L) (v : Value) : SF N (a.put none v) L := s

/-- Weaker slot facts. -/
theorem SF.sub {N : Nat} {a : Act} {L L' : List (Nat × Value)} (s : SF N a L) (h : ∀ p ∈ L', lk L p.1 = some p.2) : SF N a L' := by
  refine ⟨s.size, s.defers, fun t v hv => s.at_ t v ?_⟩
  have key : ∀ K : List (Nat × Value), lk K t = some v → ∃ p ∈ K, p.1 = t ∧ p.2 = v := by
    intro K
    induction K with
    | nil => intro e; simp [lk] at e
    | cons p K ih =>
      intro e
      obtain ⟨k, u⟩ := p
      cases hb : Nat.beq t k with
      | true =>
        simp only [lk, hb, cond_true, Option.some.injEq] at e
        exact ⟨(k, u), by simp, (Nat.eq_of_beq_eq_true hb).symm, e⟩
      | false =>
        simp only [lk, hb, cond_false] at e
        obtain ⟨q, hq, e1, e2⟩ := ih e
        exact ⟨q, by simp [hq], e1, e2⟩
  obtain ⟨p, hp, rfl, rfl⟩ := key L' hv
  exact h p hp

theorem all_nil {p : (Nat × Value) → Prop} : ∀ x ∈ ([] : List (Nat × Value)), p x := fun _ h => by simp at h
theorem all_cons {p : (Nat × Value) → Prop} {x : Nat × Value} {l : List (Nat × Value)} (h : p x) (hl : ∀ y ∈ l, p y) : ∀ y ∈ x :: l, p y := by
  intro y hy
  rcases List.mem_cons.1 hy with rfl | hy
  · exact h
  · exact hl y hy

theorem SF.enter (N : Nat) (args : List Value) (h : args.length ≤ N) :
    SF N { tmps := args.toArray ++ Array.replicate (N - args.length) undef, defers := [] } (args.zipIdx.map fun p => (p.2, p.1)) := by
  refine ⟨by simp; omega, rfl, ?_⟩
  intro t v hv
  have key : ∀ (l : List Value) (k : Nat), lk ((l.zipIdx k).map fun p => (p.2, p.1)) t = some v → k ≤ t ∧ l[t - k]? = some v := by
    intro l
    induction l with
    | nil => intro k e; simp [lk] at e
    | cons x l ih =>
      intro k e
      simp only [List.zipIdx_cons, List.map_cons, lk] at e
      cases hb : Nat.beq t k with
      | true =>
        have := Nat.eq_of_beq_eq_true hb
        subst this
        simp only [hb, cond_true, Option.some.injEq] at e
        subst e
        simp
      | false =>
        simp only [hb, cond_false] at e
        obtain ⟨h1, h2⟩ := ih (k + 1) e
        refine ⟨by omega, ?_⟩
        rw [show t - k = (t - (k + 1)) + 1 by omega, List.getElem?_cons_succ]
        exact h2
  obtain ⟨_, h2⟩ := key args 0 hv
  simp only [Nat.sub_zero] at h2
  obtain ⟨hlt, rfl⟩ := List.getElem?_eq_some_iff.1 h2
  simp only [Array.getD, Array.size_append, List.size_toArray, Array.size_replicate]
  rw [dif_pos (by omega)]
  simp [Array.getElem_append, hlt]

end Go.Eng
