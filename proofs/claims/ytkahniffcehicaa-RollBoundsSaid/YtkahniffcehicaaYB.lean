/- The executor: how its memory stands to a world; slots; what a machine comes to. No condition: plain lemmas. -/
import Derived.Test.YtkahniffcehicaaYA
namespace Go.Sy
open Go Go.RowKit Go.Eng

structure Sim (E : Env) (ρ : Ren) (G : GS) (F : List Chunk) (M : T) (nx : Nat) (w : World) : Prop where
  ex : ∃ c : Chunk, Holds { G with M := E.M } w (c :: F) ∧ (∀ i o, M.get i = some o → ∃ e, ρ i = some e ∧ ((hasB e o = true ∧ ∃ ob, (e.b, ob) ∈ c ∧ ORel E ρ e o ob) ∨ (hasB e o = false ∧ NilO o))) ∧
    (∀ i j e f o o', M.get i = some o → M.get j = some o' → ρ i = some e → ρ j = some f → hasB e o = true → hasB f o' = true → e.b = f.b → i = j)
  mem : MLe G.M E.M
  fresh : ∀ i, nx ≤ i → ρ i = none

section
variable {E : Env} {ρ : Ren} {G : GS} {F : List Chunk} {M : T} {nx : Nat} {w : World}

theorem Sim.gone (h : Sim E ρ G F M nx w) {i : Nat} (hi : ρ i = none) : M.get i = none := by
  obtain ⟨c, _, ho, _⟩ := h.ex
  rcases e : M.get i with _ | o
  · rfl
  · obtain ⟨f, h1, _⟩ := ho i o e
    rw [hi] at h1; cases h1
theorem Sim.obj (h : Sim E ρ G F M nx w) {i : Nat} {o : AObj} (hi : M.get i = some o) (hb : ∀ e, hasB e o = true := by intro e; rfl) : ∃ e ob, ρ i = some e ∧ w.heap[e.b]? = some ob ∧ ORel E ρ e o ob := by
  obtain ⟨c, hh, ho, _⟩ := h.ex
  obtain ⟨e, h1, ⟨_, ob, h2, h3⟩ | ⟨q, _⟩⟩ := ho i o hi
  · exact ⟨e, ob, h1, hh.own (e.b, ob) (by simp only [List.flatten_cons, List.mem_append]; exact .inl h2), h3⟩
  · rw [hb e] at q; cases q
theorem Sim.objP (h : Sim E ρ G F M nx w) {i : Nat} {o : AObj} (hi : M.get i = some o) : ∃ e, ρ i = some e ∧ ((hasB e o = true ∧ ∃ ob, w.heap[e.b]? = some ob ∧ ORel E ρ e o ob) ∨ (hasB e o = false ∧ NilO o)) := by
  obtain ⟨c, hh, ho, _⟩ := h.ex
  obtain ⟨e, h1, ⟨q, ob, h2, h3⟩ | q⟩ := ho i o hi
  · exact ⟨e, h1, .inl ⟨q, ob, hh.own (e.b, ob) (by simp only [List.flatten_cons, List.mem_append]; exact .inl h2), h3⟩⟩
  · exact ⟨e, h1, .inr q⟩
theorem Sim.start (hm : E.M = G.M) (hh : Holds G w F) : Sim E (fun _ => none) G F T.leaf 0 w :=
  ⟨⟨[], by rw [hm]; exact hh.nil, fun i o h => by simp [T.get_leaf] at h, fun i j e f o o' h => by simp [T.get_leaf] at h⟩, by rw [hm]; exact MLe.refl _, fun _ _ => rfl⟩
theorem Sim.cellM (h : Sim E ρ G F M nx w) {b o : Nat} {v : Value} (hm : mcell E.M b o = some v) : w.cell? ⟨b, o, none⟩ = some v := by
  obtain ⟨c, hh, _⟩ := h.ex
  exact hh.cellM (G := { G with M := E.M }) hm

theorem in_split {α : Type} {x : α} {a b : List α} (h : x ∈ a ++ b) : x ∈ a ∨ x ∈ b := List.mem_append.1 h

/-- A new object: under a number that stands for nothing yet. -/
theorem Sim.alloc (h : Sim E ρ G F M nx w) {i nx' cap : Nat} {o : AObj} {ob : Obj} {M' : T} (hi : ρ i = none) (hn : nx ≤ nx') (hin : i < nx') (hr : ORel E ρ ⟨w.heap.size, cap⟩ o ob)
    (h1 : M'.get i = some o) (h2 : ∀ m, m ≠ i → M'.get m = M.get m) (hB : hasB ⟨w.heap.size, cap⟩ o = true := by rfl) : Sim E (ρ.set i ⟨w.heap.size, cap⟩) G F M' nx' (w.alloc ob) := by
  have hg := h.gone hi
  obtain ⟨c, hh, ho, hj⟩ := h.ex
  have hle := Ren.le_set (ρ := ρ) ⟨w.heap.size, cap⟩ hi
  have hlt : ∀ j o', M.get j = some o' → ∀ e, ρ j = some e → hasB e o' = true → e.b < w.heap.size := by
    intro j o' hj' e he hb
    obtain ⟨f, hf, ⟨_, ob', hm, _⟩ | ⟨q, _⟩⟩ := ho j o' hj'
    · rw [he] at hf; cases hf
      exact lt_of_heap (hh.own (e.b, ob') (by simp only [List.flatten_cons, List.mem_append]; exact .inl hm))
    · rw [he] at hf; cases hf
      rw [hb] at q; cases q
  refine ⟨⟨(w.heap.size, ob) :: c, (hh.alloc ob).perm (by simp), fun j o' hj' => ?_, fun j k e f o1 o2 hj1 hk1 he hf hb1 hb2 hb => ?_⟩, h.mem, fun j hjn => ?_⟩
  · by_cases e : j = i
    · subst e
      rw [h1] at hj'; cases hj'
      exact ⟨_, Ren.set_self _ _ _, .inl ⟨hB, ob, by simp, hr.mono hle⟩⟩
    · rw [h2 j e] at hj'
      obtain ⟨f, a1, ⟨a0, ob', a2, a3⟩ | q⟩ := ho j o' hj'
      · exact ⟨f, hle _ _ a1, .inl ⟨a0, ob', by simp [a2], a3.mono hle⟩⟩
      · exact ⟨f, hle _ _ a1, .inr q⟩
  · by_cases e1 : j = i
    · by_cases e2 : k = i
      · omega
      · exfalso
        subst e1
        rw [Ren.set_self] at he; cases he
        rw [Ren.set_ne _ e2] at hf
        rw [h2 k e2] at hk1
        have := hlt k o2 hk1 f hf hb2
        simp only at hb
        omega
    · by_cases e2 : k = i
      · exfalso
        subst e2
        rw [Ren.set_self] at hf; cases hf
        rw [Ren.set_ne _ e1] at he
        rw [h2 j e1] at hj1
        have := hlt j o1 hj1 e he hb1
        simp only at hb
        omega
      · rw [Ren.set_ne _ e1] at he
        rw [Ren.set_ne _ e2] at hf
        rw [h2 j e1] at hj1
        rw [h2 k e2] at hk1
        exact hj j k e f o1 o2 hj1 hk1 he hf hb1 hb2 hb
  · rw [Ren.set_ne _ (by omega)]
    exact h.fresh j (by omega)

def repl (b : Nat) (ob : Obj) (c : Chunk) : Chunk := c.map fun p => if p.1 = b then (b, ob) else p
theorem repl_keys (b : Nat) (ob : Obj) (c : Chunk) : (repl b ob c).map (·.1) = c.map (·.1) := by
  unfold repl
  rw [List.map_map]
  refine List.map_congr_left fun p _ => ?_
  simp only [Function.comp]
  split
  · rename_i h; exact h.symm
  · rfl
theorem mem_repl {b : Nat} {ob : Obj} {c : Chunk} {p : Nat × Obj} (h : p ∈ repl b ob c) : p = (b, ob) ∨ (p ∈ c ∧ p.1 ≠ b) := by
  unfold repl at h
  obtain ⟨q, hq, rfl⟩ := List.mem_map.1 h
  split
  · exact .inl rfl
  · rename_i hne; exact .inr ⟨hq, hne⟩
theorem repl_new {b : Nat} {ob o : Obj} {c : Chunk} (h : (b, o) ∈ c) : (b, ob) ∈ repl b ob c := List.mem_map.2 ⟨(b, o), h, by simp⟩
theorem repl_old {b : Nat} {ob : Obj} {c : Chunk} {p : Nat × Obj} (h : p ∈ c) (hne : p.1 ≠ b) : p ∈ repl b ob c := List.mem_map.2 ⟨p, h, by simp [hne]⟩

/-- An object is turned in its place. -/
theorem Sim.turn (h : Sim E ρ G F M nx w) {i : Nat} {o o' : AObj} {e : REnt} {ob' : Obj} {M' : T} {w' : World} (hi : M.get i = some o) (he : ρ i = some e) (hos : w'.os = w.os) (ht : w'.tape = w.tape) (hou : w'.output = w.output)
    (hel : ∀ b, b < w.heap.size → b ≠ e.b → w'.heap[b]? = w.heap[b]?) (hob : w'.heap[e.b]? = some ob') (hr : ORel E ρ e o' ob')
    (h1 : M'.get i = some o') (h2 : ∀ m, m ≠ i → M'.get m = M.get m) (hB : hasB e o = true := by rfl) (hB' : hasB e o' = true := by rfl) : Sim E ρ G F M' nx w' := by
  obtain ⟨c, hh, ho, hj⟩ := h.ex
  obtain ⟨f, a1, ⟨_, ob, a2, a3⟩ | ⟨q, _⟩⟩ := ho i o hi
  case inr => rw [he] at a1; cases a1; rw [hB] at q; cases q
  rw [he] at a1; cases a1
  refine ⟨⟨repl e.b ob' c, hh.turn hos ht hou (repl_keys _ _ _) (fun b hb hn => hel b hb fun q => hn (q ▸ List.mem_map.2 ⟨_, a2, rfl⟩)) (fun p hp => ?_), fun j o2 hj2 => ?_, fun j k e' f' o1 o2 hj1 hk1 he1 hf1 hb1 hb2 => ?_⟩, h.mem, h.fresh⟩
  · rcases mem_repl hp with rfl | ⟨hp, hne⟩
    · exact hob
    · have := hh.own p (by simp only [List.flatten_cons, List.mem_append]; exact .inl hp)
      rw [hel p.1 (lt_of_heap this) hne]; exact this
  · by_cases q : j = i
    · subst q
      rw [h1] at hj2; cases hj2
      exact ⟨e, he, .inl ⟨hB', ob', repl_new a2, hr⟩⟩
    · rw [h2 j q] at hj2
      obtain ⟨f', b1, ⟨b0, ob2, b2, b3⟩ | b4⟩ := ho j o2 hj2
      · refine ⟨f', b1, .inl ⟨b0, ob2, repl_old b2 fun hb => q ?_, b3⟩⟩
        exact hj j i f' e _ _ hj2 hi b1 he b0 hB hb
      · exact ⟨f', b1, .inr b4⟩
  · by_cases q1 : j = i
    · by_cases q2 : k = i
      · intro _; rw [q1, q2]
      · subst q1
        rw [h1] at hj1; cases hj1
        rw [h2 k q2] at hk1
        rw [he] at he1; cases he1
        exact hj j k e f' _ _ hi hk1 he hf1 hB hb2
    · by_cases q2 : k = i
      · subst q2
        rw [h1] at hk1; cases hk1
        rw [h2 j q1] at hj1
        rw [he] at hf1; cases hf1
        exact hj j k e' e _ _ hj1 hi he1 he hb1 hB
      · rw [h2 j q1] at hj1
        rw [h2 k q2] at hk1
        exact hj j k e' f' _ _ hj1 hk1 he1 hf1 hb1 hb2

/-- An object goes away; another one comes, in its block or in a new one. -/
theorem Sim.regrow (h : Sim E ρ G F M nx w) {i j nx' cap : Nat} {old : Option Nat} {o' : AObj} {b' : Nat} {ob' : Obj} {M' : T} {w' : World} (hj : ρ j = none) (hn : nx ≤ nx') (hjn : j < nx')
    (hold : ∀ b, old = some b → ∃ e o, M.get i = some o ∧ ρ i = some e ∧ e.b = b ∧ hasB e o = true) (hg : w.grownBy w' old) (hw : w'.heap[b']? = some ob') (hb' : old = some b' ∨ w.heap.size ≤ b') (hr : ORel E ρ ⟨b', cap⟩ o' ob')
    (h1 : M'.get j = some o') (h2 : ∀ m, m ≠ j → m ≠ i → M'.get m = M.get m) (h3 : i ≠ j → M'.get i = none) (hB' : hasB ⟨b', cap⟩ o' = true := by rfl) : Sim E (ρ.set j ⟨b', cap⟩) G F M' nx' w' := by
  have hgone := h.gone hj
  obtain ⟨c, hh, ho, hinj⟩ := h.ex
  have hle := Ren.le_set (ρ := ρ) ⟨b', cap⟩ hj
  have hF := hh.drop
  have hn0 := hh.nodup
  simp only [List.flatten_cons, List.map_append] at hn0
  have hdis := (List.nodup_append.1 hn0).2.2
  have hcn := (List.nodup_append.1 hn0).1
  have hblk : ∀ p ∈ c, p.1 < w.heap.size := fun p hp => lt_of_heap (hh.own p (by simp only [List.flatten_cons, List.mem_append]; exact .inl hp))
  have hkeep : ∀ b, b < w.heap.size → old ≠ some b → w'.heap[b]? = w.heap[b]? := fun b hb hne => hg.block b hb (fun e => hne e.symm)
  have holdc : ∀ b, old = some b → b ∈ c.map (·.1) := by
    intro b hb
    obtain ⟨e, o, m1, m2, m3, m4⟩ := hold b hb
    obtain ⟨f, a1, ⟨_, ob, a2, _⟩ | ⟨q, _⟩⟩ := ho i o m1
    · rw [m2] at a1; cases a1
      exact List.mem_map.2 ⟨_, a2, m3⟩
    · rw [m2] at a1; cases a1
      rw [m4] at q; cases q
  have hnotM : ∀ b o2, E.M b = some o2 → old ≠ some b := by
    intro b o2 hM hb
    obtain ⟨p, hp, hpb⟩ := List.mem_map.1 (holdc b hb)
    have := hh.apart p (by simp only [List.flatten_cons, List.mem_append]; exact .inl hp)
    rw [hpb] at this
    have : E.M b = none := this
    rw [hM] at this; cases this
  have hc' : ∀ p, p ∈ c.filter (fun p => decide (old ≠ some p.1)) → p ∈ c ∧ old ≠ some p.1 := fun p hp => by
    have := List.mem_filter.1 hp
    exact ⟨this.1, by simpa using this.2⟩
  refine ⟨⟨(b', ob') :: c.filter (fun p => decide (old ≠ some p.1)), ⟨hg.os.trans hh.os, hg.tape.trans hh.tape, hg.output.trans hh.output, fun b o2 hM => ?_, fun p hp => ?_, ?_, fun p hp => ?_⟩, fun k o2 hk => ?_, fun k l e f o1 o2 hk hl he hf hb1 hb2 hb => ?_⟩, h.mem, fun k hk => ?_⟩
  · have hM' : E.M b = some o2 := hM
    have := hh.mem b o2 hM
    rw [hkeep b (lt_of_heap this) (hnotM b o2 hM')]; exact this
  · simp only [List.flatten_cons, List.cons_append, List.mem_cons, List.mem_append] at hp
    rcases hp with rfl | hp | hp
    · exact hw
    · obtain ⟨hp1, hp2⟩ := hc' p hp
      have := hh.own p (by simp only [List.flatten_cons, List.mem_append]; exact .inl hp1)
      rw [hkeep p.1 (lt_of_heap this) hp2]; exact this
    · have := hF.own p hp
      rw [hkeep p.1 (lt_of_heap this) fun e => hdis _ (holdc _ e) _ (List.mem_map_of_mem hp) rfl]; exact this
  · simp only [List.flatten_cons, List.cons_append, List.map_cons, List.map_append, List.nodup_cons]
    refine ⟨fun hm => ?_, ?_⟩
    · rcases List.mem_append.1 hm with hm | hm
      · obtain ⟨p, hp, hpb⟩ := List.mem_map.1 hm
        obtain ⟨hp1, hp2⟩ := hc' p hp
        rcases hb' with e | e
        · exact hp2 (hpb ▸ e)
        · have := hblk p hp1; omega
      · obtain ⟨p, hp, hpb⟩ := List.mem_map.1 hm
        rcases hb' with e | e
        · exact hdis _ (holdc _ e) _ (List.mem_map_of_mem hp) hpb.symm
        · have := lt_of_heap (hF.own p hp); omega
    · refine List.nodup_append.2 ⟨?_, hF.nodup, fun x hx y hy => ?_⟩
      · exact hcn.sublist (List.Sublist.map _ List.filter_sublist)
      · refine hdis x ?_ y hy
        obtain ⟨p, hp, rfl⟩ := List.mem_map.1 hx
        exact List.mem_map_of_mem (hc' p hp).1
  · simp only [List.flatten_cons, List.cons_append, List.mem_cons, List.mem_append] at hp
    show E.M p.1 = none
    rcases hp with rfl | hp | hp
    · rcases e : E.M b' with _ | o2
      · rfl
      · rcases hb' with q | q
        · exact absurd q (hnotM b' o2 e)
        · have := lt_of_heap (hh.mem b' o2 e); omega
    · exact hh.apart p (by simp only [List.flatten_cons, List.mem_append]; exact .inl (hc' p hp).1)
    · exact hF.apart p hp
  · by_cases q : k = j
    · subst q
      rw [h1] at hk; cases hk
      exact ⟨_, Ren.set_self _ _ _, .inl ⟨hB', ob', by simp, hr.mono hle⟩⟩
    · by_cases q2 : k = i
      · subst q2
        rw [h3 q] at hk; cases hk
      · rw [h2 k q q2] at hk
        obtain ⟨f, a1, ⟨a0, ob2, a2, a3⟩ | a4⟩ := ho k o2 hk
        · refine ⟨f, hle _ _ a1, .inl ⟨a0, ob2, ?_, a3.mono hle⟩⟩
          refine List.mem_cons_of_mem _ (List.mem_filter.2 ⟨a2, ?_⟩)
          simp only [decide_eq_true_eq]
          intro hb
          obtain ⟨e, o, m1, m2, m3, m4⟩ := hold _ hb
          exact q2 (hinj k i f e _ _ hk m1 a1 m2 a0 m4 m3.symm)
        · exact ⟨f, hle _ _ a1, .inr a4⟩
  · have nb : ∀ m f' om, M.get m = some om → m ≠ i → ρ m = some f' → hasB f' om = true → f'.b ≠ b' := by
      intro m f' om hm hmi hf' hbm hbb
      obtain ⟨f2, a1, ⟨_, ob2, a2, _⟩ | ⟨q, _⟩⟩ := ho m om hm
      · rw [hf'] at a1; cases a1
        rcases hb' with q | q
        · obtain ⟨e, o, m1, m2, m3, m4⟩ := hold _ q
          exact hmi (hinj m i f' e _ _ hm m1 hf' m2 hbm m4 (by rw [m3]; exact hbb))
        · have := hblk _ a2
          simp only at this
          omega
      · rw [hf'] at a1; cases a1
        rw [hbm] at q; cases q
    by_cases q1 : k = j
    · by_cases q2 : l = j
      · omega
      · exfalso
        subst q1
        rw [Ren.set_self] at he; cases he
        rw [Ren.set_ne _ q2] at hf
        by_cases q3 : l = i
        · subst q3; rw [h3 q2] at hl; cases hl
        · rw [h2 l q2 q3] at hl
          exact nb l f _ hl q3 hf hb2 hb.symm
    · by_cases q2 : l = j
      · exfalso
        subst q2
        rw [Ren.set_self] at hf; cases hf
        rw [Ren.set_ne _ q1] at he
        by_cases q3 : k = i
        · subst q3; rw [h3 q1] at hk; cases hk
        · rw [h2 k q1 q3] at hk
          exact nb k e _ hk q3 he hb1 hb
      · rw [Ren.set_ne _ q1] at he
        rw [Ren.set_ne _ q2] at hf
        by_cases q3 : k = i
        · subst q3; rw [h3 q1] at hk; cases hk
        · by_cases q4 : l = i
          · subst q4; rw [h3 q2] at hl; cases hl
          · rw [h2 k q1 q3] at hk
            rw [h2 l q2 q4] at hl
            exact hinj k l e f _ _ hk hl he hf hb1 hb2 hb
  · rw [Ren.set_ne _ (by omega)]
    exact h.fresh k (by omega)

theorem Sim.ext (h : Sim E ρ G F M nx w) {w' : World} (hb : Below w.heap.size w w') : Sim E ρ G F M nx w' := by
  obtain ⟨c, hh, ho, hj⟩ := h.ex
  exact ⟨⟨c, hh.ext hb, ho, hj⟩, h.mem, h.fresh⟩
theorem Sim.drawn (h : Sim E ρ G F M nx w) : Sim E ρ G F M nx { w with drawn := w.drawn + 1 } := by
  obtain ⟨c, hh, ho, hj⟩ := h.ex
  exact ⟨⟨c, hh.drawn, ho, hj⟩, h.mem, h.fresh⟩
theorem Sim.more (h : Sim E ρ G F M nx w) {nx' : Nat} (hn : nx ≤ nx') : Sim E ρ G F M nx' w := ⟨h.ex, h.mem, fun i hi => h.fresh i (by omega)⟩
theorem Sim.holds (h : Sim E ρ G F M nx w) : ∃ G', G.Le G' ∧ Holds G' w F ∧ G'.M = E.M := by
  obtain ⟨c, hh, _⟩ := h.ex
  exact ⟨{ G with M := E.M }, ⟨rfl, rfl, rfl, h.mem⟩, hh.drop, rfl⟩
end

/-! ### Slots -/
inductive SL
  | nil
  | cons (t : Nat) (v : AV) (r : SL)
  | mark (i : Nat) (r : SL)
noncomputable def getS (t : Nat) (S : SL) : AV := SL.rec .bad (fun k v _ ih => Bool.rec ih v (Nat.beq k t)) (fun _ _ ih => ih) S
theorem getS_nil (t : Nat) : getS t .nil = .bad := rfl
theorem getS_mark (t i : Nat) (r : SL) : getS t (.mark i r) = getS t r := rfl
theorem getS_self (t : Nat) (v : AV) (r : SL) : getS t (.cons t v r) = v := by
  show Bool.rec (motive := fun _ => AV) (getS t r) v (Nat.beq t t) = v
  rw [Nat.beq_refl]
theorem getS_ne {t k : Nat} (v : AV) (r : SL) (h : k ≠ t) : getS t (.cons k v r) = getS t r := by
  show Bool.rec (motive := fun _ => AV) (getS t r) v (Nat.beq k t) = getS t r
  have : Nat.beq k t = false := by
    cases hb : Nat.beq k t with
    | false => rfl
    | true => exact absurd (Nat.eq_of_beq_eq_true hb) h
  rw [this]
def marks : SL → List Nat
  | .nil => []
  | .cons _ _ r => marks r
  | .mark i r => i :: marks r
def DRel (ρ : Ren) : List Nat → List Deferred → Prop
  | [], ds => ds = []
  | i :: r, ds => ∃ e ds', ρ i = some e ∧ ds = { target := .collected e.b, args := #[] } :: ds' ∧ DRel ρ r ds'
theorem DRel.mono {ρ ρ' : Ren} (hl : ρ.Le ρ') : ∀ {l : List Nat} {ds : List Deferred}, DRel ρ l ds → DRel ρ' l ds
  | [], _, h => h
  | _ :: _, _, ⟨e, ds', h1, h2, h3⟩ => ⟨e, ds', hl _ _ h1, h2, h3.mono hl⟩
structure SRel (E : Env) (ρ : Ren) (N : Nat) (S : SL) (a : Act) : Prop where
  size : a.tmps.size = N
  at_ : ∀ t x, den E ρ (getS t S) = some x → a.tmps.getD t undef = x
  defs : DRel ρ (marks S) a.defers
section
variable {E : Env} {ρ ρ' : Ren} {N : Nat} {S : SL} {a : Act}
/-- What was known of a slot stays known. -/
def SRel.Keeps (E : Env) (ρ ρ' : Ren) : Prop := ∀ v x, den E ρ v = some x → den E ρ' v = some x
/-- The slots stand for something under the elder renaming: carried over. -/
def SOk (E : Env) (ρ : Ren) (S : SL) : Prop := ∀ t x ρ', ρ.Le ρ' → den E ρ' (getS t S) = some x → den E ρ (getS t S) = some x
end

/-! ### What a machine comes to -/
def Good (P : Program) (Tg : Machine → Prop) (m : Machine) : Prop := ∃ m', Steps P m m' ∧ Tg m'
theorem Good.step {P : Program} {Tg : Machine → Prop} {m m1 : Machine} (h : step P m = .next m1) (g : Good P Tg m1) : Good P Tg m := by
  obtain ⟨m', h1, h2⟩ := g
  exact ⟨m', .head h h1, h2⟩
theorem Good.steps {P : Program} {Tg : Machine → Prop} {m m1 : Machine} (h : Steps P m m1) (g : Good P Tg m1) : Good P Tg m := by
  obtain ⟨m', h1, h2⟩ := g
  exact ⟨m', h.trans h1, h2⟩
end Go.Sy
