/- The engine's form of a region's proof: what each operation leaves in its slot, whatever the order. No condition: plain lemmas. -/
import Derived.Test.YtkahniffcehicaaCtl
namespace Go.Eng
open Go Go.RowKit

/-- What is known of a slot: it stays known when ghost memory grows. -/
structure Fact where
  p : GS → Value → Prop
  mono : ∀ G G' v, G.Le G' → p G v → p G' v
def Fact.eq (u : Value) : Fact := ⟨fun _ v => v = u, fun _ _ _ _ h => h⟩
def Fact.any : Fact := ⟨fun _ _ => True, fun _ _ _ _ h => h⟩
def Fact.imp (b : Bool) (f : Fact) : Fact := ⟨fun G v => b = true → f.p G v, fun G G' v hG h hb => f.mono G G' v hG (h hb)⟩

abbrev Slots := List (Option Nat × Fact)

/-- The slots of the operations that are done. -/
def Phi (X : Slots) (D : Nat → Bool) (a : Act) (G : GS) : Prop := ∀ i d f, X[i]? = some (some d, f) → D i = true → f.p G (a.tmps.getD d undef)
/-- What a slot that the region overwrites holds till then: the operation that writes it, the slot, the old value. -/
abbrev Olds := List (Nat × Nat × Value)
def Pre (O : Olds) (D : Nat → Bool) (a : Act) : Prop := ∀ (i k t : Nat) (v : Value), O[i]? = some (k, t, v) → D k = false → a.tmps.getD t undef = v

structure JR (N : Nat) (L0 : List (Nat × Value)) (X : Slots) (O : Olds) (HR : (Nat → Bool) → Act → GS → List Chunk → Prop) (G0 : GS) (D : Nat → Bool) (a : Act) (w : World) (G : GS) (H : List Chunk) : Prop where
  le : G0.Le G
  hr : HR D a G H
  holds : Holds G w H
  sf : SF N a L0
  phi : Phi X D a G
  pre : Pre O D a

def J (N : Nat) (L0 : List (Nat × Value)) (X : Slots) (O : Olds) (HR : (Nat → Bool) → Act → GS → List Chunk → Prop) (G0 : GS) : (Nat → Bool) → Act → World → Prop :=
  fun D a w => ∃ G H, JR N L0 X O HR G0 D a w G H

/-- The block of a value. -/
def vblk : Value → Nat
  | .pointer (some p) => p.block
  | .slice (some p) _ _ => p.block
  | .map (some b) => b
  | _ => 0
theorem vblk_ptr (b o : Nat) (p : Option Nat) : vblk (.pointer (some ⟨b, o, p⟩)) = b := rfl
theorem vblk_slice (b o n c : Nat) (p : Option Nat) : vblk (.slice (some ⟨b, o, p⟩) n c) = b := rfl
theorem put_none (a : Act) (v : Value) : a.put none v = a := rfl
/-- A fact with a block that is not known beforehand. -/
def Fact.ex (f : Nat → Value) : Fact := ⟨fun _ v => ∃ b, v = f b, fun _ _ _ _ h => h⟩

/-- No two operations write one slot; none writes a slot of L0; an old slot is written by its operation alone. -/
def okX (N : Nat) (L0 : List (Nat × Value)) (X : Slots) (O : Olds) : Bool :=
  let ds := X.map (·.1)
  let idx := ds.zipIdx
  idx.all (fun p => match p.1 with
    | none => true
    | some d => Nat.blt d N && (L0.all fun q => !Nat.beq q.1 d) && (idx.all fun q => Nat.beq q.2 p.2 || (match q.1 with | some e => !Nat.beq e d | none => true)) && (O.all fun q => Nat.beq q.1 p.2 || !Nat.beq q.2.1 d))

section
variable {P : Program} {Q : Exit → Act → World → Prop} {l : List Oper} {N : Nat} {L0 : List (Nat × Value)} {X : Slots} {O : Olds} {HR : (Nat → Bool) → Act → GS → List Chunk → Prop} {G0 : GS} {a : Act} {w : World}

theorem getD_put {a : Act} {d t : Nat} {v : Value} (h : t ≠ d) : (a.put (some d) v).tmps.getD t undef = a.tmps.getD t undef := by
  show (a.tmps.setIfInBounds d v).getD t undef = _
  rw [Array.getD_eq_getD_getElem?, Array.getD_eq_getD_getElem?, Array.getElem?_setIfInBounds_ne (fun e => h e.symm)]
theorem getD_put_self {a : Act} {d : Nat} {v : Value} (h : d < a.tmps.size) : (a.put (some d) v).tmps.getD d undef = v := by
  simp [Act.put, Array.getD, h]

theorem of_beq_false {i j : Nat} (h : (!Nat.beq i j) = true) : i ≠ j := by
  rintro rfl
  simp at h

theorem okX_at (h : okX N L0 X O = true) {i d : Nat} {f : Fact} (hi : X[i]? = some (some d, f)) :
    d < N ∧ (∀ q ∈ L0, q.1 ≠ d) ∧ (∀ j e f', X[j]? = some (some e, f') → j ≠ i → e ≠ d) ∧ (∀ (j k t : Nat) v, O[j]? = some (k, t, v) → k ≠ i → t ≠ d) := by
  unfold okX at h
  have hm : (some d, i) ∈ (X.map (·.1)).zipIdx := by
    rw [List.mem_iff_getElem?]
    exact ⟨i, by simp [hi]⟩
  have h1 := List.all_eq_true.1 h _ hm
  simp only [Bool.and_eq_true] at h1
  obtain ⟨⟨⟨h1, h2⟩, h3⟩, h4⟩ := h1
  refine ⟨by simpa [Nat.blt_eq] using h1, fun q hq => of_beq_false (List.all_eq_true.1 h2 q hq), fun j e f' hj hne => ?_, fun j k t v hj hne => ?_⟩
  · have hm2 : (some e, j) ∈ (X.map (·.1)).zipIdx := by
      rw [List.mem_iff_getElem?]
      exact ⟨j, by simp [hj]⟩
    have := List.all_eq_true.1 h3 _ hm2
    simp only [Bool.or_eq_true] at this
    rcases this with h | h
    · exact absurd (Nat.eq_of_beq_eq_true h) hne
    · exact of_beq_false h
  · have := List.all_eq_true.1 h4 (k, t, v) (List.mem_iff_getElem?.2 ⟨j, hj⟩)
    simp only [Bool.or_eq_true] at this
    rcases this with h | h
    · exact absurd (Nat.eq_of_beq_eq_true h) hne
    · exact of_beq_false h

theorem SF.put_far {a : Act} {d : Nat} {v : Value} (s : SF N a L0) (h : ∀ q ∈ L0, q.1 ≠ d) : SF N (a.put (some d) v) L0 := by
  refine ⟨by simpa [Act.put] using s.size, s.defers, fun t u hu => ?_⟩
  have hne : t ≠ d := by
    have : ∀ K : List (Nat × Value), lk K t = some u → ∃ q ∈ K, q.1 = t := by
      intro K
      induction K with
      | nil => intro e; simp [lk] at e
      | cons p K ih =>
        intro e
        cases hb : Nat.beq t p.1 with
        | true => exact ⟨p, by simp, (Nat.eq_of_beq_eq_true hb).symm⟩
        | false =>
          simp only [lk, hb, cond_false] at e
          obtain ⟨q, hq, e1⟩ := ih e
          exact ⟨q, by simp [hq], e1⟩
    obtain ⟨q, hq, rfl⟩ := this L0 hu
    exact h q hq
  rw [getD_put hne]
  exact s.at_ t u hu

/-- One slot fact more. -/
theorem SF.know {a : Act} {L : List (Nat × Value)} (s : SF N a L) (d : Nat) (v : Value) (h : a.tmps.getD d undef = v) : SF N a ((d, v) :: L) := by
  refine ⟨s.size, s.defers, fun t u hu => ?_⟩
  cases hb : Nat.beq t d with
  | true =>
    have := Nat.eq_of_beq_eq_true hb
    subst this
    simp only [lk, hb, cond_true, Option.some.injEq] at hu
    rw [h, hu]
  | false =>
    simp only [lk, hb, cond_false] at hu
    exact s.at_ t u hu

/-- An operation is done that writes the slot d. -/
theorem JR.did {D : Nat → Bool} {G G' : GS} {H H' : List Chunk} {w' : World} {i d : Nat} {f : Fact} {v : Value} (j : JR N L0 X O HR G0 D a w G H) (hok : okX N L0 X O = true) (hi : X[i]? = some (some d, f))
    (hG : G.Le G') (hH : Holds G' w' H') (hHR : HR (setD D i) (a.put (some d) v) G' H') (hv : f.p G' v) : J N L0 X O HR G0 (setD D i) (a.put (some d) v) w' := by
  obtain ⟨h1, h2, h3, h4⟩ := okX_at hok hi
  refine ⟨G', H', j.le.trans hG, hHR, hH, j.sf.put_far h2, fun k e f' hk hD => ?_, fun k o t u hk hD => ?_⟩
  · by_cases e0 : k = i
    · subst e0
      rw [hi] at hk
      injection hk with hk
      injection hk with hk1 hk2
      injection hk1 with hk1
      subst hk1; subst hk2
      rw [getD_put_self (by rw [j.sf.size]; exact h1)]
      exact hv
    · rw [setD_ne _ e0] at hD
      rw [getD_put (h3 k e f' hk e0)]
      exact f'.mono G G' _ hG (j.phi k e f' hk hD)
  · by_cases e0 : o = i
    · subst e0; rw [setD_self] at hD; cases hD
    · rw [setD_ne _ e0] at hD
      rw [getD_put (h4 k o t u hk e0)]
      exact j.pre k o t u hk hD
/-- An operation is done that writes no slot. -/
theorem JR.did0 {D : Nat → Bool} {G G' : GS} {H H' : List Chunk} {w' : World} {i : Nat} {f : Fact} {v : Value} (j : JR N L0 X O HR G0 D a w G H) (hi : X[i]? = some (none, f))
    (hG : G.Le G') (hH : Holds G' w' H') (hHR : HR (setD D i) (a.put none v) G' H') : J N L0 X O HR G0 (setD D i) (a.put none v) w' := by
  refine ⟨G', H', j.le.trans hG, hHR, hH, j.sf, fun k e f' hk hD => ?_, fun k o t u hk hD => ?_⟩
  · by_cases e0 : k = i
    · subst e0
      rw [hi] at hk
      injection hk with hk
      injection hk with hk1 hk2
      cases hk1
    · rw [setD_ne _ e0] at hD
      exact f'.mono G G' _ hG (j.phi k e f' hk hD)
  · by_cases e0 : o = i
    · subst e0; rw [setD_self] at hD; cases hD
    · rw [setD_ne _ e0] at hD
      exact j.pre k o t u hk hD

/-- An operation that is guarded and not wanted. -/
theorem JR.skip {D : Nat → Bool} {G : GS} {H : List Chunk} {i d : Nat} {b : Bool} {f : Fact} (j : JR N L0 X O HR G0 D a w G H) (hok : okX N L0 X O = true) (hi : X[i]? = some (some d, Fact.imp b f)) (hb : b = false)
    (hHR : HR (setD D i) (a.put (some d) undef) G H) : J N L0 X O HR G0 (setD D i) (a.put (some d) undef) w :=
  j.did hok hi (GS.Le.refl G) j.holds hHR (fun h => by rw [hb] at h; cases h)
/-- What an operation that is waited for has left. -/
theorem JR.got {D : Nat → Bool} {G : GS} {H : List Chunk} (j : JR N L0 X O HR G0 D a w G H) (i : Nat) {d : Nat} {f : Fact} (hi : X[i]? = some (some d, f)) (hD : D i = true) : f.p G (a.tmps.getD d undef) := j.phi i d f hi hD
theorem JR.gotE {D : Nat → Bool} {G : GS} {H : List Chunk} (j : JR N L0 X O HR G0 D a w G H) (i : Nat) {d : Nat} {u : Value} (hi : X[i]? = some (some d, Fact.eq u)) (hD : D i = true) : a.tmps.getD d undef = u := j.phi i d _ hi hD
theorem JR.gotI {D : Nat → Bool} {G : GS} {H : List Chunk} (j : JR N L0 X O HR G0 D a w G H) (i : Nat) {d : Nat} {b : Bool} {u : Value} (hi : X[i]? = some (some d, Fact.imp b (Fact.eq u))) (hD : D i = true) (hb : b = true) : a.tmps.getD d undef = u := j.phi i d _ hi hD hb
theorem JR.old {D : Nat → Bool} {G : GS} {H : List Chunk} (j : JR N L0 X O HR G0 D a w G H) (i : Nat) {k t : Nat} {v : Value} (hi : O[i]? = some (k, t, v)) (hD : D k = false) : a.tmps.getD t undef = v := j.pre i k t v hi hD

/-- A step without a guard. -/
theorem step_of {i : Nat} {o : Oper} (hg : o.guard = none) (h : ∀ D a w G H, Ready l D i → JR N L0 X O HR G0 D a w G H → o.wp P a w (J N L0 X O HR G0 (setD D i)) Q) : StepOk P l Q (J N L0 X O HR G0) i o := by
  intro D a w hR ⟨G, H, j⟩
  rw [if_pos (by simp [Region.wanted, hg])]
  exact .inl (h D a w G H hR j)
/-- A guarded step: what the guard said is known. -/
theorem step_guard {i k d : Nat} {o : Oper} {want b : Bool} {ok : Oper} (hg : o.guard = some (k, want)) (hk : l[k]? = some ok) (hd : ok.dst = some d) (hdN : Nat.blt d N = true)
    (hb : ∀ D a w G H, Ready l D i → JR N L0 X O HR G0 D a w G H → a.tmps.getD d undef = .bool b)
    (h : ∀ D a w G H, Ready l D i → JR N L0 X O HR G0 D a w G H → b = want → o.wp P a w (J N L0 X O HR G0 (setD D i)) Q)
    (h' : ∀ D a w G H, Ready l D i → JR N L0 X O HR G0 D a w G H → b ≠ want → J N L0 X O HR G0 (setD D i) (a.put o.dst undef) w) : StepOk P l Q (J N L0 X O HR G0) i o := by
  intro D a w hR ⟨G, H, j⟩
  have hv := hb D a w G H hR j
  have hlt : d < a.tmps.size := by rw [j.sf.size]; simpa [Nat.blt_eq] using hdN
  have hy : yielded l.toArray a.tmps k = some b := by
    have e : a.tmps[d]? = some (.bool b) := by
      rw [Array.getElem?_eq_getElem hlt]
      simp only [Array.getD, hlt, dif_pos, Array.getInternal_eq_getElem] at hv
      rw [hv]
    simp [yielded, hk, hd, e]
  have hw : Region.wanted o (yielded l.toArray a.tmps) = (b == want) := by
    simp [Region.wanted, hg, hy]
  by_cases e : b = want
  · rw [if_pos (by rw [hw]; simp [e])]
    exact .inl (h D a w G H hR j e)
  · rw [if_neg (by rw [hw]; simp [e])]
    exact h' D a w G H hR j e

theorem Ready.was {D : Nat → Bool} {i : Nat} (h : Ready l D i) {o : Oper} (ho : l[i]? = some o) (j : Nat) (hj : (waits o).contains j = true) : D j = true := h.done o ho j (by simpa using hj)
/-- What waits for an operation that is not done is not done. -/
theorem Ready.not {D : Nat → Bool} {i : Nat} (h : Ready l D i) {k j : Nat} {o : Oper} (hk : l[k]? = some o) (hj : (waits o).contains j = true) (hD : D j = false) : D k = false := by
  cases e : D k with
  | false => rfl
  | true => rw [h.closed k o hk e j (by simpa using hj)] at hD; cases hD
theorem Ready.yes {D : Nat → Bool} {i : Nat} (h : Ready l D i) {k j : Nat} {o : Oper} (hk : l[k]? = some o) (hj : (waits o).contains j = true) (hD : D k = true) : D j = true := h.closed k o hk hD j (by simpa using hj)

/-- The region, drawn or in the text's order. -/
theorem region_draw {id : Nat} {G : GS} {H : List Chunk} (hm : P.follows .mixedOrders = true) (hup : edgesUp l = true) (h : Holds G w H) (hHR : HR (fun _ => false) a G H) (s : SF N a L0) (hpre : ∀ (i k t : Nat) (v : Value), O[i]? = some (k, t, v) → a.tmps.getD t undef = v)
    (hs : Steps P l Q (J N L0 X O HR G) 0 l) (hend : ∀ D a w G' H', (∀ i, i < l.length → D i = true) → JR N L0 X O HR G D a w G' H' → Q .normal a w) : (Code.region id l.toArray true).wp P Q a w :=
  region_J hm hup ⟨G, H, GS.Le.refl G, hHR, h.drawn, s, fun _ _ _ _ hD => by simp at hD, fun i k t v hi _ => hpre i k t v hi⟩ hs fun D a w hall ⟨G', H', j⟩ => hend D a w G' H' hall j

/-- From k on each operation waits, by ways, for all that stand ahead of it: ws names for each one a later one that waits for it. -/
def barrier (l : List Oper) (k : Nat) (ws : List Nat) : Bool :=
  Nat.beq (ws.length + 1) l.length && ws.zipIdx.all fun p => Nat.blt p.2 p.1 && (Nat.ble p.1 k || Nat.ble p.1 (p.2 + 1)) && (match l[p.1]? with | some o => (waits o).contains p.2 | none => false)
theorem barrier_all {l : List Oper} {k : Nat} {ws : List Nat} (hb : barrier l k ws = true) {D : Nat → Bool} {i : Nat} (hcl : ∀ m o, l[m]? = some o → (D m = true ∨ m = i) → ∀ j ∈ waits o, D j = true) (hi : k ≤ i) (hil : i < l.length) : ∀ m, m < i → D m = true := by
  unfold barrier at hb
  simp only [Bool.and_eq_true] at hb
  have hlen := Nat.eq_of_beq_eq_true hb.1
  have hall := List.all_eq_true.1 hb.2
  have key : ∀ n m, i - m = n → m < i → D m = true := by
    intro n
    induction n using Nat.strongRecOn with
    | _ n ih =>
      intro m hn hm
      have hlt : m < ws.length := by omega
      have := hall (ws[m], m) (by rw [List.mem_iff_getElem?]; exact ⟨m, by simp [hlt]⟩)
      simp only [Bool.and_eq_true, Bool.or_eq_true] at this
      obtain ⟨⟨h1, h2⟩, h3⟩ := this
      have h1 : m < ws[m] := by simpa [Nat.blt_eq] using h1
      have h2 : ws[m] ≤ i := by
        rcases h2 with h2 | h2
        · have := Nat.le_of_ble_eq_true h2; omega
        · have := Nat.le_of_ble_eq_true h2; omega
      rcases ho : l[ws[m]]? with _ | o
      · simp [ho] at h3
      · simp only [ho] at h3
        refine hcl _ o ho ?_ m (by simpa using h3)
        by_cases e : ws[m] = i
        · exact .inr e
        · exact .inl (ih (i - ws[m]) (by omega) _ rfl (by omega))
  exact fun m hm => key _ m rfl hm

def JS (l : List Oper) (k : Nat) (J1 : (Nat → Bool) → Act → World → Prop) (T : List Oper → Act → World → Prop) : (Nat → Bool) → Act → World → Prop :=
  fun D a w => (D k = false ∧ J1 D a w) ∨ ∃ j, k < j ∧ j ≤ l.length ∧ (∀ i, i < l.length → (D i = true ↔ i < j)) ∧ T (l.drop j) a w

theorem Steps.of : ∀ (r : List Oper) (i : Nat) {J : (Nat → Bool) → Act → World → Prop}, (∀ k o, r[k]? = some o → StepOk P l Q J (i + k) o) → Steps P l Q J i r
  | [], _, _, _ => trivial
  | o :: r, i, J, h => ⟨h 0 o rfl, Steps.of r (i + 1) fun k o' hk => by have := h (k + 1) o' (by simpa using hk); rwa [show i + (k + 1) = i + 1 + k by omega] at this⟩

/-- A region whose last operations wait for all ahead of them: these in the text's order. -/
theorem steps_split {J1 : (Nat → Bool) → Act → World → Prop} (k : Nat) (ws : List Nat) (hk : k < l.length) (hb : barrier l k ws = true) (hs : Steps P l Q J1 0 (l.take k))
    (hend : ∀ D a w, (∀ i, i < k → D i = true) → J1 D a w → wpList P l.toArray Q (l.drop k) a w) : Steps P l Q (JS l k J1 (wpList P l.toArray Q)) 0 l := by
  refine Steps.of l 0 fun i o ho D a w hR hJ => ?_
  rw [Nat.zero_add] at hR ⊢
  have hil : i < l.length := by
    rcases Nat.lt_or_ge i l.length with h | h
    · exact h
    · rw [List.getElem?_eq_none h] at ho; cases ho
  have htail : ∀ j, i = j → k ≤ j → (∀ m, m < l.length → (D m = true ↔ m < j)) → wpList P l.toArray Q (l.drop j) a w →
      if Region.wanted o (yielded l.toArray a.tmps) = true then o.wp P a w (JS l k J1 (wpList P l.toArray Q) (setD D i)) Q ∨ (o.asks P a w ∧ LetsOut Q) else JS l k J1 (wpList P l.toArray Q) (setD D i) (a.put o.dst undef) w := by
    intro j hij hkj hD hT
    subst hij
    have hd : l.drop i = o :: l.drop (i + 1) := by
      rw [List.drop_eq_getElem_cons hil]
      congr 1
      rw [List.getElem?_eq_getElem hil] at ho
      exact Option.some.inj ho
    rw [hd] at hT
    simp only [wpList] at hT
    have hn : ∀ a w, wpList P l.toArray Q (l.drop (i + 1)) a w → JS l k J1 (wpList P l.toArray Q) (setD D i) a w := by
      intro a w h
      refine .inr ⟨i + 1, by omega, by omega, fun m hm => ?_, h⟩
      by_cases e : m = i
      · subst e; simp [setD_self]
      · rw [setD_ne _ e, hD m hm]; omega
    split
    · rename_i hw
      rw [if_pos hw] at hT
      exact hT.imp (Oper.wp_mono hn) id
    · rename_i hw
      rw [if_neg hw] at hT
      exact hn _ _ hT
  have hcl : ∀ m o, l[m]? = some o → (D m = true ∨ m = i) → ∀ j ∈ waits o, D j = true := by
    intro m o' hm hor j hj
    rcases hor with h | h
    · exact hR.closed m o' hm h j hj
    · subst h; exact hR.done o' hm j hj
  rcases hJ with ⟨hDk, hJ1⟩ | ⟨j, hj1, hj2, hD, hT⟩
  · by_cases hik : i < k
    · have := Steps.at _ 0 hs i o (by rw [List.getElem?_take_of_lt hik]; exact ho)
      rw [Nat.zero_add] at this
      have := this D a w hR hJ1
      have hn : ∀ a w, J1 (setD D i) a w → JS l k J1 (wpList P l.toArray Q) (setD D i) a w := fun a w h => .inl ⟨by rw [setD_ne _ (by omega)]; exact hDk, h⟩
      split
      · rename_i hw
        rw [if_pos hw] at this
        exact this.imp (Oper.wp_mono hn) id
      · rename_i hw
        rw [if_neg hw] at this
        exact hn _ _ this
    · by_cases hik2 : i = k
      · subst hik2
        have hall := barrier_all hb hcl (Nat.le_refl _) hil
        refine htail i rfl (Nat.le_refl _) (fun m hm => ?_) (hend D a w hall hJ1)
        constructor
        · intro hDm
          by_cases e : m < i
          · exact e
          · exfalso
            by_cases e2 : m = i
            · subst e2; rw [hDk] at hDm; cases hDm
            · have := barrier_all hb (D := D) (i := m) (fun m' o' hm' hor j hj => by
                rcases hor with h | h
                · exact hR.closed m' o' hm' h j hj
                · subst h; exact hR.closed m' o' hm' hDm j hj) (by omega) hm i (by omega)
              rw [hDk] at this; cases this
        · exact hall m
      · have := barrier_all hb hcl (by omega) hil k (by omega)
        rw [hDk] at this; cases this
  · have hji : j ≤ i := by
      rcases Nat.lt_or_ge i j with h | h
      · have := (hD i hil).2 h
        rw [hR.todo] at this; cases this
      · exact h
    have : i = j := by
      rcases Nat.lt_or_ge j i with h | h
      · have := barrier_all hb hcl (by omega) hil j h
        have := (hD j (by omega)).1 this
        omega
      · omega
    exact htail j this (by omega) hD hT

theorem region_split {id : Nat} {G : GS} {H : List Chunk} (k : Nat) (ws : List Nat) (hm : P.follows .mixedOrders = true) (hup : edgesUp l = true) (hk : Nat.blt k l.length = true) (hb : barrier l k ws = true) (h : Holds G w H) (hHR : HR (fun _ => false) a G H) (s : SF N a L0) (hpre : ∀ (i k t : Nat) (v : Value), O[i]? = some (k, t, v) → a.tmps.getD t undef = v)
    (hs : Steps P l Q (J N L0 X O HR G) 0 (l.take k)) (hend : ∀ D a w G' H', (∀ i, i < k → D i = true) → JR N L0 X O HR G D a w G' H' → wpList P l.toArray Q (l.drop k) a w) : (Code.region id l.toArray true).wp P Q a w := by
  have hk' : k < l.length := by simpa [Nat.blt_eq] using hk
  refine region_J hm hup (J := JS l k (J N L0 X O HR G) (wpList P l.toArray Q)) (.inl ⟨rfl, ⟨G, H, GS.Le.refl G, hHR, h.drawn, s, fun _ _ _ _ hD => by simp at hD, fun i k t v hi _ => hpre i k t v hi⟩⟩) (steps_split k ws hk' hb hs fun D a w hall ⟨G', H', j⟩ => hend D a w G' H' hall j) fun D a w hall hJ => ?_
  rcases hJ with ⟨hD, _⟩ | ⟨j, h1, h2, hD, hT⟩
  · rw [hall k hk'] at hD; cases hD
  · have : j = l.length := by
      rcases Nat.lt_or_ge j l.length with h | h
      · have := (hD j h).1 (hall j h); omega
      · omega
    subst this
    rw [List.drop_length] at hT
    exact hT

theorem wpOps_J {J : (Nat → Bool) → Act → World → Prop} (hup : edgesUp l = true) (hs : Steps P l Q J 0 l) (hend : ∀ D a w, (∀ i, i < l.length → D i = true) → J D a w → Q .normal a w) :
    ∀ (n k : Nat) (a : Act) (w : World), k + n = l.length → J (fun i => Nat.blt i k) a w → wpOps P l.toArray Q (List.range' k n) a w := by
  intro n
  induction n with
  | zero =>
    intro k a w hk hJ
    exact hend _ a w (fun i hi => by simp [Nat.blt_eq]; omega) hJ
  | succ n ih =>
    intro k a w hk hJ
    have hlt : k < l.length := by omega
    have ho : l[k]? = some l[k] := by simp [hlt]
    have hedge : ∀ (m : Nat) (o : Oper), l[m]? = some o → ∀ j ∈ waits o, j < m := by
      intro m o hm j hj
      have := List.all_eq_true.1 hup (o, m) (by rw [List.mem_iff_getElem?]; exact ⟨m, by simp [hm]⟩)
      have := List.all_eq_true.1 this j hj
      simpa [Nat.blt_eq] using this
    have hR : Ready l (fun i => Nat.blt i k) k := by
      refine ⟨?_, fun o hko j hj => ?_, fun m o hm hD j hj => ?_⟩
      · cases hb : Nat.blt k k with
        | false => rfl
        | true => rw [Nat.blt_eq] at hb; omega
      · have := hedge k o hko j hj
        simp [Nat.blt_eq]; omega
      · have h1 := hedge m o hm j hj
        simp [Nat.blt_eq] at hD ⊢; omega
    have hset : setD (fun i => Nat.blt i k) k = fun i => Nat.blt i (k + 1) := by
      funext i
      rw [Bool.eq_iff_iff]
      by_cases e : i = k
      · subst e; simp [setD_self, Nat.blt_eq]
      · rw [setD_ne _ e]; simp [Nat.blt_eq]; omega
    have hstep := Steps.at l 0 hs k _ ho
    rw [Nat.zero_add] at hstep
    have := hstep _ a w hR hJ
    rw [List.range'_succ, wpOps_cons]
    unfold wpOp
    have ho' : l.toArray[k]? = some l[k] := by simp [hlt]
    rw [ho']
    simp only
    have hnext : ∀ a w, J (setD (fun i => Nat.blt i k) k) a w → wpOps P l.toArray Q (List.range' (k + 1) n) a w := fun a w hJ' => ih (k + 1) a w (by omega) (hset ▸ hJ')
    split
    · rename_i hwt
      rw [if_pos hwt] at this
      exact this.imp (Oper.wp_mono hnext) id
    · rename_i hwt
      rw [if_neg hwt] at this
      exact hnext _ _ this

theorem region_text {id : Nat} {G : GS} {H : List Chunk} (hup : edgesUp l = true) (h : Holds G w H) (hHR : HR (fun _ => false) a G H) (s : SF N a L0) (hpre : ∀ (i k t : Nat) (v : Value), O[i]? = some (k, t, v) → a.tmps.getD t undef = v)
    (hs : Steps P l Q (J N L0 X O HR G) 0 l) (hend : ∀ D a w G' H', (∀ i, i < l.length → D i = true) → JR N L0 X O HR G D a w G' H' → Q .normal a w) : (Code.region id l.toArray false).wp P Q a w := by
  refine wp_region ?_
  rw [List.range_eq_range']
  refine wpOps_J hup hs (fun D a w hall ⟨G', H', j⟩ => hend D a w G' H' hall j) l.length 0 a w (by omega) ?_
  have e : (fun i => Nat.blt i 0) = fun _ => false := by
    funext i
    cases hb : Nat.blt i 0 with
    | false => rfl
    | true => rw [Nat.blt_eq] at hb; omega
  rw [e]
  exact ⟨G, H, GS.Le.refl G, hHR, h, s, fun _ _ _ _ hD => by simp at hD, fun i k t v hi _ => hpre i k t v hi⟩

/-- A loop by a number that every round lowers, beside whatever the rounds hand on. -/
theorem q_loop {γ : Type} {c : Code} (I : γ → Act → World → Prop) (μ : γ → Nat) (g0 : γ) (h0 : I g0 a w) (round : ∀ g a w, I g a w → c.wp P (Exit.then (fun a' w' => ∃ g', μ g' < μ g ∧ I g' a' w') Q) a w) :
    (Code.loop c).wp P Q a w := by
  have key : ∀ (n : Nat) (a : Act) (w : World), (∃ g, μ g = n ∧ I g a w) → (∃ m, (∃ g, μ g = m ∧ I g a w) ∧ ∀ k, k < m → ¬ ∃ g, μ g = k ∧ I g a w) := by
    intro n
    induction n using Nat.strongRecOn with
    | _ n ih =>
      intro a w h
      by_cases hk : ∃ k, k < n ∧ ∃ g, μ g = k ∧ I g a w
      · obtain ⟨k, hk, hg⟩ := hk
        exact ih k hk a w hg
      · exact ⟨n, h, fun k hk' hg => hk ⟨k, hk', hg⟩⟩
  refine wp_loop (fun a w => ∃ g, I g a w) (fun a w => @dite Nat (∃ m, (∃ g, μ g = m ∧ I g a w) ∧ ∀ k, k < m → ¬ ∃ g, μ g = k ∧ I g a w) (Classical.propDecidable _) (fun h => Classical.choose h) (fun _ => 0)) ⟨g0, h0⟩ ?_
  intro a w ⟨g, hg⟩
  have hm := key (μ g) a w ⟨g, rfl, hg⟩
  obtain ⟨⟨g1, h1, h2⟩, _⟩ := Classical.choose_spec hm
  refine Code.wp_mono (fun e a' w' q => ?_) (round g1 a w h2)
  cases e <;> first | exact q | skip
  obtain ⟨g', hlt, hg'⟩ := q
  refine ⟨⟨g', hg'⟩, ?_⟩
  have hm' := key (μ g') a' w' ⟨g', rfl, hg'⟩
  rw [dif_pos hm', dif_pos hm]
  have h3 := (Classical.choose_spec hm').2
  have : ¬ μ g' < Classical.choose hm' := fun hlt' => h3 _ hlt' ⟨g', rfl, hg'⟩
  omega
end
end Go.Eng
namespace Go.Eng
open Go Go.RowKit
section
variable {P : Program} {ops : Array Oper} {Q : Exit → Act → World → Prop} {a : Act} {w : World} {rest : List Oper} {N d : Nat} {L : List (Nat × Value)} {G : GS} {H : List Chunk} {ty : TypeId} {pos : String} {af : Array Edge}

theorem q_alloc {T : Nat} {cs : Array Value} (s : SF N a L) (hd : Nat.blt d N = true) (h : Holds G w H) (hz : zeroC P T = some cs)
    (k : ∀ a' w' b, SF N a' ((d, .pointer (some ⟨b, 0, none⟩)) :: L) → Holds G w' ([(b, .cells cs T (0, 0))] :: H) → wpList P ops Q rest a' w') : wpList P ops Q (⟨some d, .alloc T, ty, pos, af, none⟩ :: rest) a w :=
  wl rfl (o_alloc hz (k _ _ _ (s.put d hd _) (h.alloc _)))
theorem q_box {T : Nat} {x : Operand} {v : Value} (s : SF N a L) (hd : Nat.blt d N = true) (hx : opv L x = some v) (h : Holds G w H)
    (k : ∀ a' w' b, SF N a' ((d, .pointer (some ⟨b, 0, none⟩)) :: L) → Holds G w' ([(b, .cells v.cells T (0, 0))] :: H) → wpList P ops Q rest a' w') : wpList P ops Q (⟨some d, .box T x, ty, pos, af, none⟩ :: rest) a w :=
  wl rfl (o_box (s.ev hx) (k _ _ _ (s.put d hd _) (h.alloc _)))
theorem q_store {F : List Chunk} {c0 : Chunk} {j b o n : Nat} {c : Array Value} {T T' : TypeId} {x y : Operand} {v : Value} (s : SF N a L) (hx : opv L x = some (.pointer (some ⟨b, o, none⟩))) (hy : opv L y = some v)
    (hs : szOf P T = some n) (hn : v.cells.size = n) (h : Holds G w (c0 :: F)) (hj : c0[j]? = some (b, .cells c T' (0, 0))) (hb : Nat.ble (o + n) c.size = true) (h1 : v.cells.toList.all Value.oneCell' = true)
    {cl : List Value} (hcl : c.toList.take o ++ v.cells.toList ++ c.toList.drop (o + n) = cl)
    (k : ∀ a' w', SF N a' L → Holds G w' (c0.set j (b, .cells cl.toArray T' (0, 0)) :: F) → wpList P ops Q rest a' w') : wpList P ops Q (⟨none, .store T x y, ty, pos, af, none⟩ :: rest) a w :=
  wl rfl (o_storeL (s.ev hx) (s.ev hy) hs hn h hj hb h1 hcl (fun w' hh => k _ w' (s.put0 _) hh))
theorem q_call {f : Nat} {xs : List Operand} {vs : List Value} {ta : Array TypeId} {F : List Chunk} {post : GS → Value → Prop} (s : SF N a L) (hv : opvs L xs = some vs) (hf : okF P f = some (false, false)) (hd : Nat.blt d N = true)
    (hc : Calls P f vs.toArray w (Ret G F post)) (k : ∀ a' w' v G', G.Le G' → Holds G' w' F → post G' v → SF N a' ((d, v) :: L) → wpList P ops Q rest a' w') :
    wpList P ops Q (⟨some d, .call { callee := .value (.func f), args := xs.toArray, argTypes := ta }, ty, pos, af, none⟩ :: rest) a w :=
  wl rfl (o_call s hv hf hc (fun _ w' ⟨v, G', he, hG, hh, hp⟩ => ⟨v, he, k _ w' v G' hG hh hp (s.put d hd v)⟩))
theorem o_pick2 {K : Act → World → Prop} {dst : Option Tmp} {g : Option (Nat × Bool)} {c x y : Operand} {b u v z : Bool} (hc : a.eval c = .bool b) (hx : b = true → a.eval x = .bool u) (hy : b = false → a.eval y = .bool v) (hz : (bif b then u else v) = z) (k : K (a.put dst (.bool z)) w) :
    Oper.wp P ⟨dst, .pick c x y, ty, pos, af, g⟩ a w K Q := by
  subst hz
  refine o_val ?_ k
  cases b
  · simp [execOp, hc, hy rfl, asBool]
  · simp [execOp, hc, hx rfl, asBool]
theorem o_pickb {K : Act → World → Prop} {dst : Option Tmp} {g : Option (Nat × Bool)} {c x y : Operand} {b u v z : Bool} (hc : a.eval c = .bool b) (hx : a.eval x = .bool u) (hy : a.eval y = .bool v) (hz : (bif b then u else v) = z) (k : K (a.put dst (.bool z)) w) :
    Oper.wp P ⟨dst, .pick c x y, ty, pos, af, g⟩ a w K Q :=
  o_pick hc hx hy (by subst hz; cases b <;> rfl) k
def opps (L : List (Nat × Value)) : List (Nat × Operand) → Option (List (Nat × Value))
  | [] => some []
  | (i, x) :: r => match opv L x with
    | some v => match opps L r with
      | some vs => some ((i, v) :: vs)
      | none => none
    | none => none
theorem opps_eval (s : SF N a L) : ∀ (xs : List (Nat × Operand)) {vs : List (Nat × Value)}, opps L xs = some vs → xs.map (fun p => (p.1, a.eval p.2)) = vs
  | [], vs, h => by simp [opps] at h; subst h; rfl
  | (i, x) :: xs, vs, h => by
    simp only [opps] at h
    rcases hx : opv L x with _ | v
    · simp [hx] at h
    · rcases hr : opps L xs with _ | r
      · simp [hx, hr] at h
      · simp [hx, hr] at h
        subst h
        simp [s.ev hx, opps_eval s xs hr]
theorem o_build {K : Act → World → Prop} {dst : Option Tmp} {g : Option (Nat × Bool)} {T : TypeId} {xs : List (Nat × Operand)} {vs : List (Nat × Value)} {z : Value} (s : SF N a L) (hv : opps L xs = some vs)
    (hr : (Instr.build T vs.toArray).run P w = .ok z w) (k : K (a.put dst z) w) : Oper.wp P ⟨dst, .build T xs.toArray, ty, pos, af, g⟩ a w K Q := by
  refine o_val ?_ k
  have e := opps_eval s xs hv
  simp only [execOp, List.map_toArray, e, Sem.run_bind]
  rw [hr]
  rfl
end
end Go.Eng
namespace Go.Eng
open Go Go.RowKit
theorem Holds.rowI {G : GS} {w : World} {H : List Chunk} (h : Holds G w H) (i j : Nat) {c0 : Chunk} {b o : Nat} {c : Array Value} {T : TypeId} {fz : Nat × Nat} (hi : H[i]? = some c0) (hj : c0[j]? = some (b, .cells c T fz)) {cs : List Value}
    (hd : (c.toList.drop o).take cs.length = cs) : ∀ k v, cs[k]? = some v → w.cell? ⟨b, o + k, none⟩ = some v :=
  h.rowO (c := c) (T := T) (fz := fz) (List.mem_flatten.2 ⟨c0, List.mem_iff_getElem?.2 ⟨i, hi⟩, List.mem_iff_getElem?.2 ⟨j, hj⟩⟩) hd
end Go.Eng
namespace Go.Eng
open Go Go.RowKit
theorem rounds_step {P : Program} {c : Code} {Q : Exit → Act → World → Prop} {a : Act} {w : World} (n : Nat) (h : c.wp P (Exit.then (Code.rounds P c Q n) Q) a w) : Code.rounds P c Q (n + 1) a w := h
end Go.Eng
namespace Go.Eng
open Go Go.RowKit
theorem mem_at {H : List Chunk} (i j : Nat) {c0 : Chunk} {x : Nat × Obj} (hi : H[i]? = some c0) (hj : c0[j]? = some x) : x ∈ H.flatten :=
  List.mem_flatten.2 ⟨c0, List.mem_iff_getElem?.2 ⟨i, hi⟩, List.mem_iff_getElem?.2 ⟨j, hj⟩⟩
theorem mem_tail {H : List Chunk} {c : Chunk} {x : Nat × Obj} (h : x ∈ H.flatten) : x ∈ (c :: H).flatten := by
  simp only [List.flatten_cons, List.mem_append]; exact .inr h
theorem mem_bif {H : List Chunk} {c : Chunk} {x : Nat × Obj} {b : Bool} (h : x ∈ H.flatten) : x ∈ (bif b then (c :: H) else H).flatten := by
  cases b
  · exact h
  · exact mem_tail h
end Go.Eng
