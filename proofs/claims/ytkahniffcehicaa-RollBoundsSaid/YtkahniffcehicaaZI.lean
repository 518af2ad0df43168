/- The executor for symbolic runs: numbers of objects made anew, rows that are born as terms. No condition: definitions and plain lemmas. -/
import Derived.Test.YtkahniffcehicaaYT
namespace Go.Sy
open Go Go.RowKit Go.Eng

/-! ### Other numbers for the objects -/
noncomputable def lkR (ps : List (Nat × Nat)) (i : Nat) : Option Nat := List.rec none (fun p _ ih => Bool.rec ih (some p.2) (Nat.beq p.1 i)) ps
theorem lkR_mem : ∀ {ps : List (Nat × Nat)} {i j : Nat}, lkR ps i = some j → (i, j) ∈ ps
  | [], i, j, h => by cases h
  | p :: ps, i, j, h => by
    have h' : (Bool.rec (lkR ps i) (some p.2) (Nat.beq p.1 i) : Option Nat) = some j := h
    cases hb : Nat.beq p.1 i with
    | true =>
      rw [hb] at h'
      cases h'
      have := Nat.eq_of_beq_eq_true hb
      subst this
      simp
    | false => rw [hb] at h'; exact List.mem_cons_of_mem _ (lkR_mem h')
def renR (ps : List (Nat × Nat)) (ρ : Ren) : Ren := fun j => match ps.find? (fun p => Nat.beq p.2 j) with | some p => ρ p.1 | none => none
def newsOk : List (Nat × Nat) → Bool
  | [] => true
  | p :: ps => (ps.all fun q => !Nat.beq q.2 p.2) && (ps.all fun q => !Nat.beq q.1 p.1) && newsOk ps
theorem renR_at : ∀ {ps : List (Nat × Nat)} {ρ : Ren} {i j : Nat}, newsOk ps = true → (i, j) ∈ ps → renR ps ρ j = ρ i
  | [], ρ, i, j, _, h => by cases h
  | p :: ps, ρ, i, j, ho, h => by
    simp only [newsOk, Bool.and_eq_true] at ho
    rcases List.mem_cons.1 h with rfl | h
    · simp [renR]
    · have hne : Nat.beq p.2 j = false := by
        have := List.all_eq_true.1 ho.1.1 _ h
        simp only [Bool.not_eq_true'] at this
        cases hb : Nat.beq p.2 j with
        | false => rfl
        | true =>
          have := Nat.eq_of_beq_eq_true hb
          subst this
          simp at this
      have := renR_at (ρ := ρ) ho.2 h
      simp only [renR, List.find?_cons, hne] at this ⊢
      exact this
theorem news_inj : ∀ {ps : List (Nat × Nat)} {i j k : Nat}, newsOk ps = true → (i, j) ∈ ps → (i, k) ∈ ps → j = k
  | [], i, j, k, _, h, _ => by cases h
  | p :: ps, i, j, k, ho, h, h2 => by
    simp only [newsOk, Bool.and_eq_true] at ho
    have hno : ∀ q ∈ ps, q.1 ≠ p.1 := fun q hq e => by
      have := List.all_eq_true.1 ho.1.2 q hq
      rw [e] at this
      simp at this
    rcases List.mem_cons.1 h with e1 | h1
    · rcases List.mem_cons.1 h2 with e2 | h3
      · rw [← e1] at e2; injection e2 with _ e; exact e.symm
      · exact absurd (by rw [← e1]) (hno _ h3)
    · rcases List.mem_cons.1 h2 with e2 | h3
      · exact absurd (by rw [← e2]) (hno _ h1)
      · exact news_inj ho.2 h1 h3
noncomputable def renS (ps : List (Nat × Nat)) : SY → Option SY
  | .prow i n => (lkR ps i).map fun j => .prow j n
  | .psub i sz a n => (lkR ps i).map fun j => .psub j sz a n
  | .pfix i n c => (lkR ps i).map fun j => .pfix j n c
  | .rptr i sz q o => (lkR ps i).map fun j => .rptr j sz q o
  | s => some s
mutual
noncomputable def renA (ps : List (Nat × Nat)) : AV → Option AV
  | .bad => none
  | .int k z => some (.int k z)
  | .bool b => some (.bool b)
  | .str l => some (.str l)
  | .nilP => some .nilP
  | .nilS => some .nilS
  | .nilM => some .nilM
  | .nilF => some .nilF
  | .nilI => some .nilI
  | .ptr i o => (lkR ps i).map fun j => .ptr j o
  | .sl i o n c => (lkR ps i).map fun j => .sl j o n c
  | .map i => (lkR ps i).map fun j => .map j
  | .yl i => (lkR ps i).map fun j => .yl j
  | .any _ => none
  | .sy s => (renS ps s).map .sy
  | .iface t v => (renA ps v).map fun u => .iface t u
  | .fn f c => (renL ps c).map fun u => .fn f u
  | .agg l => (renL ps l).map .agg
  | .tup l => (renL ps l).map .tup
noncomputable def renL (ps : List (Nat × Nat)) : List AV → Option (List AV)
  | [] => some []
  | v :: r => (renA ps v).bind fun u => (renL ps r).map fun l => u :: l
end
section
variable {P : Program} {E : Env} {ρ : Ren} {G : GS} {F : List Chunk} {M : T} {nx : Nat} {w : World} {ps : List (Nat × Nat)} {t2 : Nat → Value}
theorem renS_den (ho : newsOk ps = true) {s u : SY} {x : Value} (h : renS ps s = some u) (hd : denS E ρ s = some x) : denS ⟨t2, E.M⟩ (renR ps ρ) u = some x := by
  cases s with
  | prow i n =>
    simp only [renS, Option.map_eq_some_iff] at h
    obtain ⟨j, h1, rfl⟩ := h
    simp only [denS, renR_at ho (lkR_mem h1)] at hd ⊢
    exact hd
  | psub i sz a n =>
    simp only [renS, Option.map_eq_some_iff] at h
    obtain ⟨j, h1, rfl⟩ := h
    simp only [denS, renR_at ho (lkR_mem h1)] at hd ⊢
    exact hd
  | pfix i n c =>
    simp only [renS, Option.map_eq_some_iff] at h
    obtain ⟨j, h1, rfl⟩ := h
    simp only [denS, renR_at ho (lkR_mem h1)] at hd ⊢
    exact hd
  | rptr i sz q o =>
    simp only [renS, Option.map_eq_some_iff] at h
    obtain ⟨j, h1, rfl⟩ := h
    simp only [denS, renR_at ho (lkR_mem h1)] at hd ⊢
    exact hd
  | int k z => cases h; exact hd
  | bool p => cases h; exact hd
  | str l => cases h; exact hd
  | imm => cases h; exact hd
  | pim => cases h; exact hd
mutual
theorem renA_den (ho : newsOk ps = true) : ∀ (v u : AV) (x : Value), renA ps v = some u → den E ρ v = some x → den ⟨t2, E.M⟩ (renR ps ρ) u = some x
  | .bad, u, x, h, _ => by simp [renA] at h
  | .any _, u, x, h, _ => by simp [renA] at h
  | .int _ _, u, x, h, hd | .bool _, u, x, h, hd | .str _, u, x, h, hd | .nilP, u, x, h, hd | .nilS, u, x, h, hd | .nilM, u, x, h, hd | .nilF, u, x, h, hd | .nilI, u, x, h, hd => by
    simp only [renA, Option.some.injEq] at h
    subst h
    simpa [den] using hd
  | .ptr i o, u, x, h, hd => by
    simp only [renA, Option.map_eq_some_iff] at h
    obtain ⟨j, h1, rfl⟩ := h
    simp only [den, renR_at ho (lkR_mem h1)] at hd ⊢
    exact hd
  | .sl i o n c, u, x, h, hd => by
    simp only [renA, Option.map_eq_some_iff] at h
    obtain ⟨j, h1, rfl⟩ := h
    simp only [den, renR_at ho (lkR_mem h1)] at hd ⊢
    exact hd
  | .map i, u, x, h, hd => by
    simp only [renA, Option.map_eq_some_iff] at h
    obtain ⟨j, h1, rfl⟩ := h
    simp only [den, renR_at ho (lkR_mem h1)] at hd ⊢
    exact hd
  | .yl i, u, x, h, hd => by
    simp only [renA, Option.map_eq_some_iff] at h
    obtain ⟨j, h1, rfl⟩ := h
    simp only [den, renR_at ho (lkR_mem h1)] at hd ⊢
    exact hd
  | .sy s, u, x, h, hd => by
    simp only [renA, Option.map_eq_some_iff] at h
    obtain ⟨s', h1, rfl⟩ := h
    simp only [den] at hd ⊢
    exact renS_den ho h1 hd
  | .iface t v, u, x, h, hd => by
    simp only [renA, Option.map_eq_some_iff] at h
    obtain ⟨y, h1, rfl⟩ := h
    simp only [den] at hd ⊢
    rcases e : den E ρ v with _ | z
    · rw [e] at hd; cases hd
    · rw [e] at hd; rw [renA_den ho v y z h1 e]; exact hd
  | .fn f c, u, x, h, hd => by
    simp only [renA, Option.map_eq_some_iff] at h
    obtain ⟨y, h1, rfl⟩ := h
    simp only [den] at hd ⊢
    rcases e : denL E ρ c with _ | z
    · rw [e] at hd; cases hd
    · rw [e] at hd; rw [renL_den ho c y z h1 e]; exact hd
  | .agg c, u, x, h, hd => by
    simp only [renA, Option.map_eq_some_iff] at h
    obtain ⟨y, h1, rfl⟩ := h
    simp only [den] at hd ⊢
    rcases e : denL E ρ c with _ | z
    · rw [e] at hd; cases hd
    · rw [e] at hd; rw [renL_den ho c y z h1 e]; exact hd
  | .tup c, u, x, h, hd => by
    simp only [renA, Option.map_eq_some_iff] at h
    obtain ⟨y, h1, rfl⟩ := h
    simp only [den] at hd ⊢
    rcases e : denL E ρ c with _ | z
    · rw [e] at hd; cases hd
    · rw [e] at hd; rw [renL_den ho c y z h1 e]; exact hd
theorem renL_den (ho : newsOk ps = true) : ∀ (l m : List AV) (xs : List Value), renL ps l = some m → denL E ρ l = some xs → denL ⟨t2, E.M⟩ (renR ps ρ) m = some xs
  | [], m, xs, h, hd => by
    simp only [renL, Option.some.injEq] at h
    subst h
    simpa [denL] using hd
  | v :: r, m, xs, h, hd => by
    obtain ⟨x, ys, h1, h2, rfl⟩ := denL_cons hd
    simp only [renL, Option.bind_eq_some_iff, Option.map_eq_some_iff] at h
    obtain ⟨u, g1, l, g2, rfl⟩ := h
    exact denL_mk (renA_den ho v u x g1 h1) (renL_den ho r l ys g2 h2)
end
noncomputable def renLL (ps : List (Nat × Nat)) : List (List AV) → Option (List (List AV))
  | [] => some []
  | v :: r => (renL ps v).bind fun u => (renLL ps r).map fun l => u :: l
theorem renL_len : ∀ {l m : List AV}, renL ps l = some m → m.length = l.length
  | [], m, h => by simp only [renL, Option.some.injEq] at h; subst h; rfl
  | v :: r, m, h => by
    simp only [renL, Option.bind_eq_some_iff, Option.map_eq_some_iff] at h
    obtain ⟨u, g1, l, g2, rfl⟩ := h
    simp [renL_len g2]
theorem renL_app : ∀ {l m a b : List AV}, renL ps l = some a → renL ps m = some b → renL ps (l ++ m) = some (a ++ b)
  | [], m, a, b, h, h2 => by simp only [renL, Option.some.injEq] at h; subst h; simpa using h2
  | v :: r, m, a, b, h, h2 => by
    simp only [renL, Option.bind_eq_some_iff, Option.map_eq_some_iff] at h
    obtain ⟨u, g1, l, g2, rfl⟩ := h
    simp [renL, g1, renL_app g2 h2]
theorem renLL_flat : ∀ {l m : List (List AV)}, renLL ps l = some m → renL ps l.flatten = some m.flatten ∧ m.length = l.length ∧ ∀ n, (∀ x ∈ l, x.length = n) → ∀ x ∈ m, x.length = n
  | [], m, h => by simp only [renLL, Option.some.injEq] at h; subst h; exact ⟨rfl, rfl, fun n _ x hx => by simp at hx⟩
  | v :: r, m, h => by
    simp only [renLL, Option.bind_eq_some_iff, Option.map_eq_some_iff] at h
    obtain ⟨u, g1, l, g2, rfl⟩ := h
    obtain ⟨h1, h2, h3⟩ := renLL_flat g2
    refine ⟨renL_app g1 h1, by simp [h2], fun n hn x hx => ?_⟩
    rcases List.mem_cons.1 hx with rfl | hx
    · rw [renL_len g1]; exact hn v (by simp)
    · exact h3 n (fun y hy => hn y (by simp [hy])) x hx
noncomputable def renEs (ps : List (Nat × Nat)) : List (AV × AV × Nat) → Option (List (AV × AV × Nat))
  | [] => some []
  | e :: r => (renA ps e.1).bind fun k => (renA ps e.2.1).bind fun v => (renEs ps r).map fun l => (k, v, e.2.2) :: l
theorem renEs_den (ho : newsOk ps = true) : ∀ {l m : List (AV × AV × Nat)} {ms : List MapEntry}, renEs ps l = some m → denE E ρ l = some ms → denE ⟨t2, E.M⟩ (renR ps ρ) m = some ms
  | [], m, ms, h, hd => by
    simp only [renEs, Option.some.injEq] at h
    subst h
    simpa [denE] using hd
  | (k, v, b) :: r, m, ms, h, hd => by
    obtain ⟨x, y, ms', h1, h2, h3, rfl⟩ := denE_cons hd
    simp only [renEs, Option.bind_eq_some_iff, Option.map_eq_some_iff] at h
    obtain ⟨k', g1, v', g2, l, g3, rfl⟩ := h
    simp only [denE, renA_den ho k k' x g1 h1, renA_den ho v v' y g2 h2, renEs_den ho g3 h3]
noncomputable def renO (ps : List (Nat × Nat)) : AObj → Option AObj
  | .blk g Ty sz els => (renLL ps els).map fun e => .blk g Ty sz e
  | .map es cl => (renEs ps es).map fun e => .map e cl
  | .prow Ty sz α l enc => some (.prow Ty sz α l enc)
  | .defs => some .defs
  | .iter .. => none
theorem renO_rel (ho : newsOk ps = true) {e : REnt} {o o' : AObj} {ob : Obj} (h : renO ps o = some o') (hr : ORel E ρ e o ob) : ORel ⟨t2, E.M⟩ (renR ps ρ) e o' ob := by
  cases o with
  | blk g Ty sz els =>
    simp only [renO, Option.map_eq_some_iff] at h
    obtain ⟨els', h1, rfl⟩ := h
    obtain ⟨f1, f2, f3⟩ := renLL_flat h1
    obtain ⟨q0, q1, arr, xs, q2, q3, q4⟩ := hr
    refine ⟨f3 sz q0, q1, arr, xs, q2, renL_den ho _ _ _ f1 q3, ?_⟩
    rw [f2]; exact q4
  | map es cl =>
    simp only [renO, Option.map_eq_some_iff] at h
    obtain ⟨es', h1, rfl⟩ := h
    obtain ⟨ms, q1, q2⟩ := hr
    exact ⟨ms, renEs_den ho h1 q1, q2⟩
  | iter => simp [renO] at h
  | defs =>
    simp only [renO, Option.some.injEq] at h
    subst h; exact hr
  | prow Ty sz α l enc =>
    simp only [renO, Option.some.injEq] at h
    subst h; exact hr
theorem renO_hasB {e : REnt} {o o' : AObj} (h : renO ps o = some o') : hasB e o' = hasB e o ∧ (NilO o → NilO o') := by
  cases o with
  | blk g Ty sz els =>
    simp only [renO, Option.map_eq_some_iff] at h
    obtain ⟨els', h1, rfl⟩ := h
    exact ⟨rfl, fun q => q⟩
  | map es cl =>
    simp only [renO, Option.map_eq_some_iff] at h
    obtain ⟨es', h1, rfl⟩ := h
    exact ⟨rfl, fun q => q⟩
  | iter => simp [renO] at h
  | defs =>
    simp only [renO, Option.some.injEq] at h
    subst h; exact ⟨rfl, fun q => q⟩
  | prow Ty sz α l enc =>
    simp only [renO, Option.some.injEq] at h
    subst h; exact ⟨rfl, fun q => q⟩
/-- The memory under other numbers. -/
noncomputable def renM (ps : List (Nat × Nat)) (M : T) (l : List (Nat × Nat)) : T → (T → Bool) → Bool := List.rec (fun acc K => K acc) (fun p _ ih acc K => atO (M.get p.1) fun o => atO (renO ps o) fun o' => T.set fuelT acc p.2 (some o') fun acc => ih acc K) l
theorem renM_ok : ∀ {l : List (Nat × Nat)} {acc : T} {K : T → Bool}, (∀ j o, acc.get j = some o → ∃ i o0, (i, j) ∈ ps ∧ M.get i = some o0 ∧ renO ps o0 = some o) → (∀ p ∈ l, p ∈ ps) → renM ps M l acc K = true →
    ∃ M', K M' = true ∧ ∀ j o, M'.get j = some o → ∃ i o0, (i, j) ∈ ps ∧ M.get i = some o0 ∧ renO ps o0 = some o
  | [], acc, K, ha, _, h => ⟨acc, h, ha⟩
  | p :: l, acc, K, ha, hl, h => by
    have h' : (atO (M.get p.1) fun o => atO (renO ps o) fun o' => T.set fuelT acc p.2 (some o') fun acc => renM ps M l acc K) = true := h
    obtain ⟨o, h1, h2⟩ := atO_ok h'
    obtain ⟨o', h3, h4⟩ := atO_ok h2
    obtain ⟨acc', h5, s1, s2⟩ := T.set_ok _ _ _ _ _ h4
    refine renM_ok (fun j ob hj => ?_) (fun q hq => hl q (by simp [hq])) h5
    by_cases e : j = p.2
    · subst e
      rw [s1] at hj
      cases hj
      exact ⟨p.1, o, hl p (by simp), h1, h3⟩
    · rw [s2 j e] at hj
      exact ha j ob hj
noncomputable def renX (live : List Nat) (ps : List (Nat × Nat)) (nx' : Nat) (S : SL) (M : T) (K : SL → T → Nat → Bool) : Bool :=
  must (newsOk ps && ps.all fun p => Nat.blt p.2 nx') (renM ps M ps .leaf fun M' => List.rec (motive := fun _ => SL → Bool) (fun acc => K acc M' nx') (fun t _ ih acc => Option.casesOn (renA ps (getS t S)) (ih acc) fun v => ih (.cons t v acc)) live .nil)
theorem Sim.ren (h : Sim E ρ G F M nx w) (ho : newsOk ps = true) {nx' : Nat} (hn : ∀ p ∈ ps, p.2 < nx') {M' : T} (hM : ∀ j o, M'.get j = some o → ∃ i o0, (i, j) ∈ ps ∧ M.get i = some o0 ∧ renO ps o0 = some o) : Sim E (renR ps ρ) G F M' nx' w := by
  obtain ⟨c, hh, hob, hinj⟩ := h.ex
  refine ⟨⟨c, hh, fun j o hj => ?_, fun j k e f o o' hj hk he hf hb1 hb2 hb => ?_⟩, h.mem, fun j hj => ?_⟩
  · obtain ⟨i, o0, h1, h2, h3⟩ := hM j o hj
    obtain ⟨e, a1, q⟩ := hob i o0 h2
    have hB := renO_hasB (e := e) h3
    refine ⟨e, by rw [renR_at ho h1]; exact a1, ?_⟩
    rcases q with ⟨q1, ob, q2, q3⟩ | ⟨q1, q2⟩
    · exact .inl ⟨by rw [hB.1]; exact q1, ob, q2, renO_rel ho h3 q3⟩
    · exact .inr ⟨by rw [hB.1]; exact q1, hB.2 q2⟩
  · obtain ⟨i, o0, h1, h2, h3⟩ := hM j o hj
    obtain ⟨i', o1, g1, g2, g3⟩ := hM k o' hk
    rw [renR_at ho h1] at he
    rw [renR_at ho g1] at hf
    rw [(renO_hasB (e := e) h3).1] at hb1
    rw [(renO_hasB (e := f) g3).1] at hb2
    have := hinj i i' e f o0 o1 h2 g2 he hf hb1 hb2 hb
    subst this
    exact news_inj ho h1 g1
  · unfold renR
    split
    · rename_i p hp
      have h1 := List.mem_of_find?_eq_some hp
      have h2 := List.find?_some hp
      have := Nat.eq_of_beq_eq_true h2
      have := hn p h1
      omega
    · rfl
theorem renX_ok {N : Nat} {S : SL} {a : Act} (s : SR E ρ N S a) (h : Sim E ρ G F M nx w) {live : List Nat} {nx' : Nat} {K : SL → T → Nat → Bool} (hk : renX live ps nx' S M K = true) :
    ∃ S' M' ρ', SR E ρ' N S' a ∧ Sim E ρ' G F M' nx' w ∧ K S' M' nx' = true ∧ ∀ i j, (i, j) ∈ ps → ρ' j = ρ i := by
  obtain ⟨h1, h2⟩ := must_ok hk
  simp only [Bool.and_eq_true] at h1
  obtain ⟨M', h3, h4⟩ := renM_ok (ps := ps) (fun j o hj => by simp [T.get_leaf] at hj) (fun p hp => hp) h2
  have hn : ∀ p ∈ ps, p.2 < nx' := fun p hp => by
    have := List.all_eq_true.1 h1.2 p hp
    simpa [Nat.blt_eq] using this
  have key : ∀ (live : List Nat) (acc : SL), SR E (renR ps ρ) N acc a → (List.rec (motive := fun _ => SL → Bool) (fun acc => K acc M' nx') (fun t _ ih acc => Option.casesOn (renA ps (getS t S)) (ih acc) fun v => ih (.cons t v acc)) live acc) = true → ∃ S', SR E (renR ps ρ) N S' a ∧ K S' M' nx' = true := by
    intro live
    induction live with
    | nil => exact fun acc sa hk => ⟨acc, sa, hk⟩
    | cons t live ih =>
      intro acc sa hk
      have hk' : Option.casesOn (motive := fun _ => Bool) (renA ps (getS t S)) (List.rec (motive := fun _ => SL → Bool) (fun acc => K acc M' nx') (fun t _ ih acc => Option.casesOn (renA ps (getS t S)) (ih acc) fun v => ih (.cons t v acc)) live acc)
        (fun v => List.rec (motive := fun _ => SL → Bool) (fun acc => K acc M' nx') (fun t _ ih acc => Option.casesOn (renA ps (getS t S)) (ih acc) fun v => ih (.cons t v acc)) live (.cons t v acc)) = true := hk
      rcases e : renA ps (getS t S) with _ | v
      · rw [e] at hk'
        exact ih acc sa hk'
      · rw [e] at hk'
        refine ih (.cons t v acc) ⟨sa.size, sa.defs, fun u => ?_⟩ hk'
        by_cases q : t = u
        · subst q
          rw [getS_self]
          rcases s.at_ t with q | ⟨x, q1, q2⟩
          · rw [q] at e; simp [renA] at e
          · exact .inr ⟨x, renA_den h1.1 _ _ _ e q1, q2⟩
        · rw [getS_ne _ _ q]
          exact sa.at_ u
  obtain ⟨S', k1, k2⟩ := key live .nil ⟨s.size, s.defs, fun _ => .inl rfl⟩ h3
  exact ⟨S', M', _, k1, h.ren h1.1 hn h4, k2, fun i j q => renR_at h1.1 q⟩

/-! ### Which numbers still matter -/
noncomputable def idsS : SY → List Nat
  | .prow i _ => [i]
  | .psub i _ _ _ => [i]
  | .pfix i _ _ => [i]
  | .rptr i _ _ _ => [i]
  | _ => []
mutual
noncomputable def idsA : AV → List Nat
  | .ptr i _ => [i]
  | .sl i _ _ _ => [i]
  | .map i => [i]
  | .yl i => [i]
  | .sy s => idsS s
  | .iface _ v => idsA v
  | .fn _ c => idsL c
  | .agg l => idsL l
  | .tup l => idsL l
  | _ => []
noncomputable def idsL : List AV → List Nat
  | [] => []
  | v :: r => idsA v ++ idsL r
end
noncomputable def idsO : AObj → List Nat
  | .blk _ _ _ els => idsL els.flatten
  | .map es _ => es.flatMap fun e => idsA e.1 ++ idsA e.2.1
  | _ => []
/-- One after the other, with what they name. -/
noncomputable def walkI (M : T) : Nat → List Nat → List Nat → List Nat
  | 0, _, seen => seen
  | _ + 1, [], seen => seen
  | n + 1, i :: todo, seen => match seen.any (Nat.beq i), M.get i with
    | false, some o => walkI M n (todo ++ idsO o) (seen ++ [i])
    | _, _ => walkI M n todo seen
def numd : Nat → List Nat → List (Nat × Nat)
  | _, [] => []
  | k, i :: r => (i, k) :: numd (k + 1) r
def upTo : Nat → List Nat → List Nat
  | 0, l => l
  | k + 1, l => upTo k (k :: l)
def pinsB (ps : List (Nat × Nat)) : Nat → Bool
  | 0 => true
  | k + 1 => List.any ps (fun p => Nat.beq p.1 k && Nat.beq p.2 k) && pinsB ps k
theorem pinsB_ok {ps : List (Nat × Nat)} : ∀ {k : Nat}, pinsB ps k = true → ∀ i, i < k → (i, i) ∈ ps
  | 0, _, i, hi => by omega
  | k + 1, h, i, hi => by
    simp only [pinsB, Bool.and_eq_true] at h
    rcases Nat.lt_succ_iff_lt_or_eq.1 hi with h1 | rfl
    · exact pinsB_ok h.2 i h1
    · obtain ⟨p, q1, q2⟩ := List.any_eq_true.1 h.1
      simp only [Bool.and_eq_true] at q2
      have e1 := Nat.eq_of_beq_eq_true q2.1
      have e2 := Nat.eq_of_beq_eq_true q2.2
      have : p = (i, i) := by cases p; simp_all
      rw [← this]; exact q1
noncomputable def canP (k : Nat) (live : List Nat) (S : SL) (M : T) : List (Nat × Nat) := numd 0 (walkI M 200 (upTo k (live.flatMap fun t => idsA (getS t S))) [])
/-- The first k numbers stay. -/
noncomputable def canX (k : Nat) (live : List Nat) (S : SL) (M : T) (K : SL → T → Nat → Bool) : Bool := must (pinsB (canP k live S M) k) (renX live (canP k live S M) (canP k live S M).length S M K)
theorem canX_ok {N k : Nat} {S : SL} {a : Act} (s : SR E ρ N S a) (h : Sim E ρ G F M nx w) {live : List Nat} {K : SL → T → Nat → Bool} (hk : canX k live S M K = true) :
    ∃ S' M' nx' ρ', SR E ρ' N S' a ∧ Sim E ρ' G F M' nx' w ∧ K S' M' nx' = true ∧ ∀ i e, i < k → ρ i = some e → ρ' i = some e := by
  obtain ⟨h1, h2⟩ := must_ok hk
  obtain ⟨S', M', ρ', g1, g2, g3, g4⟩ := renX_ok s h h2
  exact ⟨S', M', _, ρ', g1, g2, g3, fun i e q1 q2 => by rw [g4 i i (pinsB_ok h1 i q1)]; exact q2⟩

end
end Go.Sy
