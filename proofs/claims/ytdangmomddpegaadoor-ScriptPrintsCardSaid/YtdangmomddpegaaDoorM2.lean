/- Definitions and lemmas of the proof, without a condition of their own. -/
import Derived.Test.YtdangmomddpegaaDoorM1
import Derived.LoopN
import Derived.Laws.ResultCell
import Derived.Lib.ItoaMem
import Derived.Lib.Join
import Derived.Shelf.Strings.Builder1
import Derived.Shelf.Strings.Builder2
import Derived.Shelf.Strings.OnBuilder
import Derived.Shelf.Strconv.Itoa0
import Derived.Shelf.Strconv.Itoa1
import Derived.Shelf.LaysM
import Derived.Shelf.Strconv.Itoa2
import Derived.Shelf.Strconv.Itoa3
import Derived.Shelf.Strconv.Itoa4
import Derived.Shelf.GgClosure.StringsIndexFunc
import Derived.Ground.GgwProg
import Derived.Shelf.GgClosure.StringsIndexFuncTop
import Derived.Shelf.GgClosure.StringsRunes
import Derived.Test.YtdangmomddpegaaDoorProg
import Derived.Test.YtdangmomddpegaaDoorChecked
import Derived.KernelRfl
import Derived.WalkKit
import Derived.Lib.AppendIntMem
namespace Go.Sy
open Go Go.RowKit Go.Eng
noncomputable def lkR (ps : List (Nat × Nat)) (i : Nat) : Option Nat := List.rec none (fun p _ ih => Bool.rec ih (some p.2) (Nat.beq p.1 i)) ps
theorem lkR_mem : ∀ {ps : List (Nat × Nat)} {i j : Nat}, lkR ps i = some j → (i, j) ∈ ps
  | [], i, j, h => by cases h
  | p :: ps, i, j, h => by
    have h' : (Bool.rec (lkR ps i) (some p.2) (Nat.beq p.1 i) : Option Nat) = some j := h
    cases hb : Nat.beq p.1 i with
    | true =>
      rw [hb] at h'
      cases h'
      have := Nat.eq_of_beq_eq_true hb
      subst this
      simp
    | false => rw [hb] at h'; exact List.mem_cons_of_mem _ (lkR_mem h')
def renR (ps : List (Nat × Nat)) (ρ : Ren) : Ren := fun j => match ps.find? (fun p => Nat.beq p.2 j) with | some p => ρ p.1 | none => none
def newsOk : List (Nat × Nat) → Bool
  | [] => true
  | p :: ps => (ps.all fun q => !Nat.beq q.2 p.2) && (ps.all fun q => !Nat.beq q.1 p.1) && newsOk ps
theorem renR_at : ∀ {ps : List (Nat × Nat)} {ρ : Ren} {i j : Nat}, newsOk ps = true → (i, j) ∈ ps → renR ps ρ j = ρ i
  | [], ρ, i, j, _, h => by cases h
  | p :: ps, ρ, i, j, ho, h => by
    simp only [newsOk, Bool.and_eq_true] at ho
    rcases List.mem_cons.1 h with rfl | h
    · simp [renR]
    · have hne : Nat.beq p.2 j = false := by
        have := List.all_eq_true.1 ho.1.1 _ h
        simp only [Bool.not_eq_true'] at this
        cases hb : Nat.beq p.2 j with
        | false => rfl
        | true =>
          have := Nat.eq_of_beq_eq_true hb
          subst this
          simp at this
      have := renR_at (ρ := ρ) ho.2 h
      simp only [renR, List.find?_cons, hne] at this ⊢
      exact this
theorem news_inj : ∀ {ps : List (Nat × Nat)} {i j k : Nat}, newsOk ps = true → (i, j) ∈ ps → (i, k) ∈ ps → j = k
  | [], i, j, k, _, h, _ => by cases h
  | p :: ps, i, j, k, ho, h, h2 => by
    simp only [newsOk, Bool.and_eq_true] at ho
    have hno : ∀ q ∈ ps, q.1 ≠ p.1 := fun q hq e => by
      have := List.all_eq_true.1 ho.1.2 q hq
      rw [e] at this
      simp at this
    rcases List.mem_cons.1 h with e1 | h1
    · rcases List.mem_cons.1 h2 with e2 | h3
      · rw [← e1] at e2; injection e2 with _ e; exact e.symm
      · exact absurd (by rw [← e1]) (hno _ h3)
    · rcases List.mem_cons.1 h2 with e2 | h3
      · exact absurd (by rw [← e2]) (hno _ h1)
      · exact news_inj ho.2 h1 h3
noncomputable def renS (ps : List (Nat × Nat)) : SY → Option SY
  | .prow i n => (lkR ps i).map fun j => .prow j n
  | .psub i sz a n => (lkR ps i).map fun j => .psub j sz a n
  | .pfix i n c => (lkR ps i).map fun j => .pfix j n c
  | .rptr i sz q o => (lkR ps i).map fun j => .rptr j sz q o
  | s => some s
mutual
noncomputable def renA (ps : List (Nat × Nat)) : AV → Option AV
  | .bad => none
  | .int k z => some (.int k z)
  | .bool b => some (.bool b)
  | .str l => some (.str l)
  | .nilP => some .nilP
  | .nilS => some .nilS
  | .nilM => some .nilM
  | .nilF => some .nilF
  | .nilI => some .nilI
  | .ptr i o => (lkR ps i).map fun j => .ptr j o
  | .sl i o n c => (lkR ps i).map fun j => .sl j o n c
  | .map i => (lkR ps i).map fun j => .map j
  | .yl i => (lkR ps i).map fun j => .yl j
  | .any _ => none
  | .sy s => (renS ps s).map .sy
  | .iface t v => (renA ps v).map fun u => .iface t u
  | .fn f c => (renL ps c).map fun u => .fn f u
  | .agg l => (renL ps l).map .agg
  | .tup l => (renL ps l).map .tup
noncomputable def renL (ps : List (Nat × Nat)) : List AV → Option (List AV)
  | [] => some []
  | v :: r => (renA ps v).bind fun u => (renL ps r).map fun l => u :: l
end
section
variable {P : Program} {E : Env} {ρ : Ren} {G : GS} {F : List Chunk} {M : T} {nx : Nat} {w : World} {ps : List (Nat × Nat)} {t2 : Nat → Value}
theorem renS_den (ho : newsOk ps = true) {s u : SY} {x : Value} (h : renS ps s = some u) (hd : denS E ρ s = some x) : denS ⟨t2, E.M⟩ (renR ps ρ) u = some x := by
  cases s with
  | prow i n =>
    simp only [renS, Option.map_eq_some_iff] at h
    obtain ⟨j, h1, rfl⟩ := h
    simp only [denS, renR_at ho (lkR_mem h1)] at hd ⊢
    exact hd
  | psub i sz a n =>
    simp only [renS, Option.map_eq_some_iff] at h
    obtain ⟨j, h1, rfl⟩ := h
    simp only [denS, renR_at ho (lkR_mem h1)] at hd ⊢
    exact hd
  | pfix i n c =>
    simp only [renS, Option.map_eq_some_iff] at h
    obtain ⟨j, h1, rfl⟩ := h
    simp only [denS, renR_at ho (lkR_mem h1)] at hd ⊢
    exact hd
  | rptr i sz q o =>
    simp only [renS, Option.map_eq_some_iff] at h
    obtain ⟨j, h1, rfl⟩ := h
    simp only [denS, renR_at ho (lkR_mem h1)] at hd ⊢
    exact hd
  | int k z => cases h; exact hd
  | bool p => cases h; exact hd
  | str l => cases h; exact hd
  | imm => cases h; exact hd
  | pim => cases h; exact hd
mutual
theorem renA_den (ho : newsOk ps = true) : ∀ (v u : AV) (x : Value), renA ps v = some u → den E ρ v = some x → den ⟨t2, E.M⟩ (renR ps ρ) u = some x
  | .bad, u, x, h, _ => by simp [renA] at h
  | .any _, u, x, h, _ => by simp [renA] at h
  | .int _ _, u, x, h, hd | .bool _, u, x, h, hd | .str _, u, x, h, hd | .nilP, u, x, h, hd | .nilS, u, x, h, hd | .nilM, u, x, h, hd | .nilF, u, x, h, hd | .nilI, u, x, h, hd => by
    simp only [renA, Option.some.injEq] at h
    subst h
    simpa [den] using hd
  | .ptr i o, u, x, h, hd => by
    simp only [renA, Option.map_eq_some_iff] at h
    obtain ⟨j, h1, rfl⟩ := h
    simp only [den, renR_at ho (lkR_mem h1)] at hd ⊢
    exact hd
  | .sl i o n c, u, x, h, hd => by
    simp only [renA, Option.map_eq_some_iff] at h
    obtain ⟨j, h1, rfl⟩ := h
    simp only [den, renR_at ho (lkR_mem h1)] at hd ⊢
    exact hd
  | .map i, u, x, h, hd => by
    simp only [renA, Option.map_eq_some_iff] at h
    obtain ⟨j, h1, rfl⟩ := h
    simp only [den, renR_at ho (lkR_mem h1)] at hd ⊢
    exact hd
  | .yl i, u, x, h, hd => by
    simp only [renA, Option.map_eq_some_iff] at h
    obtain ⟨j, h1, rfl⟩ := h
    simp only [den, renR_at ho (lkR_mem h1)] at hd ⊢
    exact hd
  | .sy s, u, x, h, hd => by
    simp only [renA, Option.map_eq_some_iff] at h
    obtain ⟨s', h1, rfl⟩ := h
    simp only [den] at hd ⊢
    exact renS_den ho h1 hd
  | .iface t v, u, x, h, hd => by
    simp only [renA, Option.map_eq_some_iff] at h
    obtain ⟨y, h1, rfl⟩ := h
    simp only [den] at hd ⊢
    rcases e : den E ρ v with _ | z
    · rw [e] at hd; cases hd
    · rw [e] at hd; rw [renA_den ho v y z h1 e]; exact hd
  | .fn f c, u, x, h, hd => by
    simp only [renA, Option.map_eq_some_iff] at h
    obtain ⟨y, h1, rfl⟩ := h
    simp only [den] at hd ⊢
    rcases e : denL E ρ c with _ | z
    · rw [e] at hd; cases hd
    · rw [e] at hd; rw [renL_den ho c y z h1 e]; exact hd
  | .agg c, u, x, h, hd => by
    simp only [renA, Option.map_eq_some_iff] at h
    obtain ⟨y, h1, rfl⟩ := h
    simp only [den] at hd ⊢
    rcases e : denL E ρ c with _ | z
    · rw [e] at hd; cases hd
    · rw [e] at hd; rw [renL_den ho c y z h1 e]; exact hd
  | .tup c, u, x, h, hd => by
    simp only [renA, Option.map_eq_some_iff] at h
    obtain ⟨y, h1, rfl⟩ := h
    simp only [den] at hd ⊢
    rcases e : denL E ρ c with _ | z
    · rw [e] at hd; cases hd
    · rw [e] at hd; rw [renL_den ho c y z h1 e]; exact hd
theorem renL_den (ho : newsOk ps = true) : ∀ (l m : List AV) (xs : List Value), renL ps l = some m → denL E ρ l = some xs → denL ⟨t2, E.M⟩ (renR ps ρ) m = some xs
  | [], m, xs, h, hd => by
    simp only [renL, Option.some.injEq] at h
    subst h
    simpa [denL] using hd
  | v :: r, m, xs, h, hd => by
    obtain ⟨x, ys, h1, h2, rfl⟩ := denL_cons hd
    simp only [renL, Option.bind_eq_some_iff, Option.map_eq_some_iff] at h
    obtain ⟨u, g1, l, g2, rfl⟩ := h
    exact denL_mk (renA_den ho v u x g1 h1) (renL_den ho r l ys g2 h2)
end
noncomputable def renLL (ps : List (Nat × Nat)) : List (List AV) → Option (List (List AV))
  | [] => some []
  | v :: r => (renL ps v).bind fun u => (renLL ps r).map fun l => u :: l
theorem renL_len : ∀ {l m : List AV}, renL ps l = some m → m.length = l.length
  | [], m, h => by simp only [renL, Option.some.injEq] at h; subst h; rfl
  | v :: r, m, h => by
    simp only [renL, Option.bind_eq_some_iff, Option.map_eq_some_iff] at h
    obtain ⟨u, g1, l, g2, rfl⟩ := h
    simp [renL_len g2]
theorem renL_app : ∀ {l m a b : List AV}, renL ps l = some a → renL ps m = some b → renL ps (l ++ m) = some (a ++ b)
  | [], m, a, b, h, h2 => by simp only [renL, Option.some.injEq] at h; subst h; simpa using h2
  | v :: r, m, a, b, h, h2 => by
    simp only [renL, Option.bind_eq_some_iff, Option.map_eq_some_iff] at h
    obtain ⟨u, g1, l, g2, rfl⟩ := h
    simp [renL, g1, renL_app g2 h2]
theorem renLL_flat : ∀ {l m : List (List AV)}, renLL ps l = some m → renL ps l.flatten = some m.flatten ∧ m.length = l.length ∧ ∀ n, (∀ x ∈ l, x.length = n) → ∀ x ∈ m, x.length = n
  | [], m, h => by simp only [renLL, Option.some.injEq] at h; subst h; exact ⟨rfl, rfl, fun n _ x hx => by simp at hx⟩
  | v :: r, m, h => by
    simp only [renLL, Option.bind_eq_some_iff, Option.map_eq_some_iff] at h
    obtain ⟨u, g1, l, g2, rfl⟩ := h
    obtain ⟨h1, h2, h3⟩ := renLL_flat g2
    refine ⟨renL_app g1 h1, by simp [h2], fun n hn x hx => ?_⟩
    rcases List.mem_cons.1 hx with rfl | hx
    · rw [renL_len g1]; exact hn v (by simp)
    · exact h3 n (fun y hy => hn y (by simp [hy])) x hx
noncomputable def renEs (ps : List (Nat × Nat)) : List (AV × AV × Nat) → Option (List (AV × AV × Nat))
  | [] => some []
  | e :: r => (renA ps e.1).bind fun k => (renA ps e.2.1).bind fun v => (renEs ps r).map fun l => (k, v, e.2.2) :: l
theorem renEs_den (ho : newsOk ps = true) : ∀ {l m : List (AV × AV × Nat)} {ms : List MapEntry}, renEs ps l = some m → denE E ρ l = some ms → denE ⟨t2, E.M⟩ (renR ps ρ) m = some ms
  | [], m, ms, h, hd => by
    simp only [renEs, Option.some.injEq] at h
    subst h
    simpa [denE] using hd
  | (k, v, b) :: r, m, ms, h, hd => by
    obtain ⟨x, y, ms', h1, h2, h3, rfl⟩ := denE_cons hd
    simp only [renEs, Option.bind_eq_some_iff, Option.map_eq_some_iff] at h
    obtain ⟨k', g1, v', g2, l, g3, rfl⟩ := h
    simp only [denE, renA_den ho k k' x g1 h1, renA_den ho v v' y g2 h2, renEs_den ho g3 h3]
noncomputable def renO (ps : List (Nat × Nat)) : AObj → Option AObj
  | .blk g Ty sz els => (renLL ps els).map fun e => .blk g Ty sz e
  | .map es cl => (renEs ps es).map fun e => .map e cl
  | .prow Ty sz α l enc => some (.prow Ty sz α l enc)
  | .defs => some .defs
  | .iter .. => none
theorem renO_rel (ho : newsOk ps = true) {e : REnt} {o o' : AObj} {ob : Obj} (h : renO ps o = some o') (hr : ORel E ρ e o ob) : ORel ⟨t2, E.M⟩ (renR ps ρ) e o' ob := by
  cases o with
  | blk g Ty sz els =>
    simp only [renO, Option.map_eq_some_iff] at h
    obtain ⟨els', h1, rfl⟩ := h
    obtain ⟨f1, f2, f3⟩ := renLL_flat h1
    obtain ⟨q0, q1, arr, xs, q2, q3, q4⟩ := hr
    refine ⟨f3 sz q0, q1, arr, xs, q2, renL_den ho _ _ _ f1 q3, ?_⟩
    rw [f2]; exact q4
  | map es cl =>
    simp only [renO, Option.map_eq_some_iff] at h
    obtain ⟨es', h1, rfl⟩ := h
    obtain ⟨ms, q1, q2⟩ := hr
    exact ⟨ms, renEs_den ho h1 q1, q2⟩
  | iter => simp [renO] at h
  | defs =>
    simp only [renO, Option.some.injEq] at h
    subst h; exact hr
  | prow Ty sz α l enc =>
    simp only [renO, Option.some.injEq] at h
    subst h; exact hr
theorem renO_hasB {e : REnt} {o o' : AObj} (h : renO ps o = some o') : hasB e o' = hasB e o ∧ (NilO o → NilO o') := by
  cases o with
  | blk g Ty sz els =>
    simp only [renO, Option.map_eq_some_iff] at h
    obtain ⟨els', h1, rfl⟩ := h
    exact ⟨rfl, fun q => q⟩
  | map es cl =>
    simp only [renO, Option.map_eq_some_iff] at h
    obtain ⟨es', h1, rfl⟩ := h
    exact ⟨rfl, fun q => q⟩
  | iter => simp [renO] at h
  | defs =>
    simp only [renO, Option.some.injEq] at h
    subst h; exact ⟨rfl, fun q => q⟩
  | prow Ty sz α l enc =>
    simp only [renO, Option.some.injEq] at h
    subst h; exact ⟨rfl, fun q => q⟩
noncomputable def renM (ps : List (Nat × Nat)) (M : T) (l : List (Nat × Nat)) : T → (T → Bool) → Bool := List.rec (fun acc K => K acc) (fun p _ ih acc K => atO (M.get p.1) fun o => atO (renO ps o) fun o' => T.set fuelT acc p.2 (some o') fun acc => ih acc K) l
theorem renM_ok : ∀ {l : List (Nat × Nat)} {acc : T} {K : T → Bool}, (∀ j o, acc.get j = some o → ∃ i o0, (i, j) ∈ ps ∧ M.get i = some o0 ∧ renO ps o0 = some o) → (∀ p ∈ l, p ∈ ps) → renM ps M l acc K = true →
    ∃ M', K M' = true ∧ ∀ j o, M'.get j = some o → ∃ i o0, (i, j) ∈ ps ∧ M.get i = some o0 ∧ renO ps o0 = some o
  | [], acc, K, ha, _, h => ⟨acc, h, ha⟩
  | p :: l, acc, K, ha, hl, h => by
    have h' : (atO (M.get p.1) fun o => atO (renO ps o) fun o' => T.set fuelT acc p.2 (some o') fun acc => renM ps M l acc K) = true := h
    obtain ⟨o, h1, h2⟩ := atO_ok h'
    obtain ⟨o', h3, h4⟩ := atO_ok h2
    obtain ⟨acc', h5, s1, s2⟩ := T.set_ok _ _ _ _ _ h4
    refine renM_ok (fun j ob hj => ?_) (fun q hq => hl q (by simp [hq])) h5
    by_cases e : j = p.2
    · subst e
      rw [s1] at hj
      cases hj
      exact ⟨p.1, o, hl p (by simp), h1, h3⟩
    · rw [s2 j e] at hj
      exact ha j ob hj
noncomputable def renX (live : List Nat) (ps : List (Nat × Nat)) (nx' : Nat) (S : SL) (M : T) (K : SL → T → Nat → Bool) : Bool :=
  must (newsOk ps && ps.all fun p => Nat.blt p.2 nx') (renM ps M ps .leaf fun M' => List.rec (motive := fun _ => SL → Bool) (fun acc => K acc M' nx') (fun t _ ih acc => Option.casesOn (renA ps (getS t S)) (ih acc) fun v => ih (.cons t v acc)) live .nil)
theorem Sim.ren (h : Sim E ρ G F M nx w) (ho : newsOk ps = true) {nx' : Nat} (hn : ∀ p ∈ ps, p.2 < nx') {M' : T} (hM : ∀ j o, M'.get j = some o → ∃ i o0, (i, j) ∈ ps ∧ M.get i = some o0 ∧ renO ps o0 = some o) : Sim E (renR ps ρ) G F M' nx' w := by
  obtain ⟨c, hh, hob, hinj⟩ := h.ex
  refine ⟨⟨c, hh, fun j o hj => ?_, fun j k e f o o' hj hk he hf hb1 hb2 hb => ?_⟩, h.mem, fun j hj => ?_⟩
  · obtain ⟨i, o0, h1, h2, h3⟩ := hM j o hj
    obtain ⟨e, a1, q⟩ := hob i o0 h2
    have hB := renO_hasB (e := e) h3
    refine ⟨e, by rw [renR_at ho h1]; exact a1, ?_⟩
    rcases q with ⟨q1, ob, q2, q3⟩ | ⟨q1, q2⟩
    · exact .inl ⟨by rw [hB.1]; exact q1, ob, q2, renO_rel ho h3 q3⟩
    · exact .inr ⟨by rw [hB.1]; exact q1, hB.2 q2⟩
  · obtain ⟨i, o0, h1, h2, h3⟩ := hM j o hj
    obtain ⟨i', o1, g1, g2, g3⟩ := hM k o' hk
    rw [renR_at ho h1] at he
    rw [renR_at ho g1] at hf
    rw [(renO_hasB (e := e) h3).1] at hb1
    rw [(renO_hasB (e := f) g3).1] at hb2
    have := hinj i i' e f o0 o1 h2 g2 he hf hb1 hb2 hb
    subst this
    exact news_inj ho h1 g1
  · unfold renR
    split
    · rename_i p hp
      have h1 := List.mem_of_find?_eq_some hp
      have h2 := List.find?_some hp
      have := Nat.eq_of_beq_eq_true h2
      have := hn p h1
      omega
    · rfl
theorem renX_ok {N : Nat} {S : SL} {a : Act} (s : SR E ρ N S a) (h : Sim E ρ G F M nx w) {live : List Nat} {nx' : Nat} {K : SL → T → Nat → Bool} (hk : renX live ps nx' S M K = true) :
    ∃ S' M' ρ', SR E ρ' N S' a ∧ Sim E ρ' G F M' nx' w ∧ K S' M' nx' = true ∧ ∀ i j, (i, j) ∈ ps → ρ' j = ρ i := by
  obtain ⟨h1, h2⟩ := must_ok hk
  simp only [Bool.and_eq_true] at h1
  obtain ⟨M', h3, h4⟩ := renM_ok (ps := ps) (fun j o hj => by simp [T.get_leaf] at hj) (fun p hp => hp) h2
  have hn : ∀ p ∈ ps, p.2 < nx' := fun p hp => by
    have := List.all_eq_true.1 h1.2 p hp
    simpa [Nat.blt_eq] using this
  have key : ∀ (live : List Nat) (acc : SL), SR E (renR ps ρ) N acc a → (List.rec (motive := fun _ => SL → Bool) (fun acc => K acc M' nx') (fun t _ ih acc => Option.casesOn (renA ps (getS t S)) (ih acc) fun v => ih (.cons t v acc)) live acc) = true → ∃ S', SR E (renR ps ρ) N S' a ∧ K S' M' nx' = true := by
    intro live
    induction live with
    | nil => exact fun acc sa hk => ⟨acc, sa, hk⟩
    | cons t live ih =>
      intro acc sa hk
      have hk' : Option.casesOn (motive := fun _ => Bool) (renA ps (getS t S)) (List.rec (motive := fun _ => SL → Bool) (fun acc => K acc M' nx') (fun t _ ih acc => Option.casesOn (renA ps (getS t S)) (ih acc) fun v => ih (.cons t v acc)) live acc)
        (fun v => List.rec (motive := fun _ => SL → Bool) (fun acc => K acc M' nx') (fun t _ ih acc => Option.casesOn (renA ps (getS t S)) (ih acc) fun v => ih (.cons t v acc)) live (.cons t v acc)) = true := hk
      rcases e : renA ps (getS t S) with _ | v
      · rw [e] at hk'
        exact ih acc sa hk'
      · rw [e] at hk'
        refine ih (.cons t v acc) ⟨sa.size, sa.defs, fun u => ?_⟩ hk'
        by_cases q : t = u
        · subst q
          rw [getS_self]
          rcases s.at_ t with q | ⟨x, q1, q2⟩
          · rw [q] at e; simp [renA] at e
          · exact .inr ⟨x, renA_den h1.1 _ _ _ e q1, q2⟩
        · rw [getS_ne _ _ q]
          exact sa.at_ u
  obtain ⟨S', k1, k2⟩ := key live .nil ⟨s.size, s.defs, fun _ => .inl rfl⟩ h3
  exact ⟨S', M', _, k1, h.ren h1.1 hn h4, k2, fun i j q => renR_at h1.1 q⟩
noncomputable def idsS : SY → List Nat
  | .prow i _ => [i]
  | .psub i _ _ _ => [i]
  | .pfix i _ _ => [i]
  | .rptr i _ _ _ => [i]
  | _ => []
mutual
noncomputable def idsA : AV → List Nat
  | .ptr i _ => [i]
  | .sl i _ _ _ => [i]
  | .map i => [i]
  | .yl i => [i]
  | .sy s => idsS s
  | .iface _ v => idsA v
  | .fn _ c => idsL c
  | .agg l => idsL l
  | .tup l => idsL l
  | _ => []
noncomputable def idsL : List AV → List Nat
  | [] => []
  | v :: r => idsA v ++ idsL r
end
noncomputable def idsO : AObj → List Nat
  | .blk _ _ _ els => idsL els.flatten
  | .map es _ => es.flatMap fun e => idsA e.1 ++ idsA e.2.1
  | _ => []
noncomputable def walkI (M : T) : Nat → List Nat → List Nat → List Nat
  | 0, _, seen => seen
  | _ + 1, [], seen => seen
  | n + 1, i :: todo, seen => match seen.any (Nat.beq i), M.get i with
    | false, some o => walkI M n (todo ++ idsO o) (seen ++ [i])
    | _, _ => walkI M n todo seen
def numd : Nat → List Nat → List (Nat × Nat)
  | _, [] => []
  | k, i :: r => (i, k) :: numd (k + 1) r
def upTo : Nat → List Nat → List Nat
  | 0, l => l
  | k + 1, l => upTo k (k :: l)
def pinsB (ps : List (Nat × Nat)) : Nat → Bool
  | 0 => true
  | k + 1 => List.any ps (fun p => Nat.beq p.1 k && Nat.beq p.2 k) && pinsB ps k
theorem pinsB_ok {ps : List (Nat × Nat)} : ∀ {k : Nat}, pinsB ps k = true → ∀ i, i < k → (i, i) ∈ ps
  | 0, _, i, hi => by omega
  | k + 1, h, i, hi => by
    simp only [pinsB, Bool.and_eq_true] at h
    rcases Nat.lt_succ_iff_lt_or_eq.1 hi with h1 | rfl
    · exact pinsB_ok h.2 i h1
    · obtain ⟨p, q1, q2⟩ := List.any_eq_true.1 h.1
      simp only [Bool.and_eq_true] at q2
      have e1 := Nat.eq_of_beq_eq_true q2.1
      have e2 := Nat.eq_of_beq_eq_true q2.2
      have : p = (i, i) := by cases p; simp_all
      rw [← this]; exact q1
noncomputable def canP (k : Nat) (live : List Nat) (S : SL) (M : T) : List (Nat × Nat) := numd 0 (walkI M 200 (upTo k (live.flatMap fun t => idsA (getS t S))) [])
noncomputable def canX (k : Nat) (live : List Nat) (S : SL) (M : T) (K : SL → T → Nat → Bool) : Bool := must (pinsB (canP k live S M) k) (renX live (canP k live S M) (canP k live S M).length S M K)
theorem canX_ok {N k : Nat} {S : SL} {a : Act} (s : SR E ρ N S a) (h : Sim E ρ G F M nx w) {live : List Nat} {K : SL → T → Nat → Bool} (hk : canX k live S M K = true) :
    ∃ S' M' nx' ρ', SR E ρ' N S' a ∧ Sim E ρ' G F M' nx' w ∧ K S' M' nx' = true ∧ ∀ i e, i < k → ρ i = some e → ρ' i = some e := by
  obtain ⟨h1, h2⟩ := must_ok hk
  obtain ⟨S', M', ρ', g1, g2, g3, g4⟩ := renX_ok s h h2
  exact ⟨S', M', _, ρ', g1, g2, g3, fun i e q1 q2 => by rw [g4 i i (pinsB_ok h1 i q1)]; exact q2⟩
end
section
variable {P : Program} {E : Env} {ρ : Ren} {G : GS} {F : List Chunk} {M : T} {nx : Nat} {w : World}
noncomputable def bornV (v : AV) (Ty sz : Nat) (α : Type) (enc : α → List PL) (M : T) (nx : Nat) (K : AV → T → Nat → Bool) : Bool := ifB (isSy v) (asSy v fun s => SY.casesOn s (fun _ _ => false) (fun _ => false) (fun _ => false) (fun _ _ _ _ _ => false) (fun _ _ _ => false) (fun i n => prowOf M i fun Ty' sz' _ l _ => must (Nat.beq Ty Ty') (must (Nat.beq sz sz') (must (prB (l = [])) (T.set fuelT M i (some (.prow Ty sz α [] enc)) fun M' => K (.sy (.prow i n)) M' nx)))) (fun _ _ _ _ => false) (fun _ _ _ _ => false) (fun _ _ _ => false)) (asSl v
  (must (Nat.blt 0 sz) (T.set fuelT M nx (some (.prow Ty sz α [] enc)) fun M' => fN (Nat.succ nx) fun q => K (.sy (.prow nx 0)) M' q))
  (fun i o n c => must (Nat.beq o 0) (blkOf M i fun g Ty' sz' els => must (Nat.beq Ty Ty') (must (Nat.beq sz sz') (ACap.casesOn c
    (fun c => must (Bool.rec true false g) (must (Nat.beq n 0) (must (Nat.beq (lenL els) c) (must (Nat.ble c 9223372036854775807)
      (T.set fuelT M i none fun M1 => T.set fuelT M1 nx (some (.prow Ty sz α [] enc)) fun M' => fN (Nat.succ nx) fun q => K (.sy (.prow nx 0)) M' q)))))
    (fun k => must (Nat.beq k 0) (must g (must (Nat.beq (lenL els) n) (toPss els fun pss => exB fun l : List α => must (prB (l.map enc = pss))
      (T.set fuelT M i none fun M1 => T.set fuelT M1 nx (some (.prow Ty sz α l enc)) fun M' => fN (Nat.succ nx) fun q => K (.sy (.prow nx l.length)) M' q))))))))))
theorem Sim.nilRow (h : Sim E ρ G F M nx w) {M' : T} {Ty sz : Nat} {α : Type} {enc : α → List PL} (hsz : 0 < sz) (h1 : M'.get nx = some (.prow Ty sz α [] enc)) (h2 : ∀ m, m ≠ nx → M'.get m = M.get m) : Sim E (ρ.set nx ⟨0, 0⟩) G F M' (nx + 1) w := by
  have h0 := h.fresh nx (Nat.le_refl _)
  have hle := Ren.le_set (ρ := ρ) ⟨0, 0⟩ h0
  obtain ⟨c, hh, hob, hinj⟩ := h.ex
  refine ⟨⟨c, hh, fun j o hj => ?_, fun j k e f o o' hj hk he hf hb1 hb2 hb => ?_⟩, h.mem, fun j hj => ?_⟩
  · by_cases q : j = nx
    · subst q
      rw [h1] at hj; cases hj
      exact ⟨_, Ren.set_self _ _ _, .inr ⟨rfl, rfl, hsz⟩⟩
    · rw [h2 j q] at hj
      obtain ⟨e, a1, ⟨q1, ob, q2, q3⟩ | q1⟩ := hob j o hj
      · exact ⟨e, hle _ _ a1, .inl ⟨q1, ob, q2, q3.mono hle⟩⟩
      · exact ⟨e, hle _ _ a1, .inr q1⟩
  · have nb : ∀ m e o, M'.get m = some o → ρ.set nx ⟨0, 0⟩ m = some e → hasB e o = true → m ≠ nx := fun m e o q1 q2 q3 q4 => by
      subst q4
      rw [h1] at q1; cases q1
      rw [Ren.set_self] at q2; cases q2
      cases q3
    have nj := nb j e o hj he hb1
    have nk := nb k f o' hk hf hb2
    rw [h2 j nj] at hj
    rw [h2 k nk] at hk
    rw [Ren.set_ne _ nj] at he
    rw [Ren.set_ne _ nk] at hf
    exact hinj j k e f o o' hj hk he hf hb1 hb2 hb
  · rw [Ren.set_ne _ (by omega)]
    exact h.fresh j (by omega)
theorem Sim.rekey (h : Sim E ρ G F M nx w) {i : Nat} {o o' : AObj} {e e' : REnt} {M' : T} (hi : M.get i = some o) (he : ρ i = some e) (hb : e'.b = e.b) (hB : hasB e o = true) (hB' : hasB e' o' = true) (hr : ∀ ob, ORel E ρ e o ob → ORel E ρ e' o' ob)
    (h1 : M'.get nx = some o') (h2 : ∀ m, m ≠ nx → m ≠ i → M'.get m = M.get m) (h3 : M'.get i = none) : Sim E (ρ.set nx e') G F M' (nx + 1) w := by
  have h0 := h.fresh nx (Nat.le_refl _)
  have hle := Ren.le_set (ρ := ρ) e' h0
  have hinx : i ≠ nx := fun q => by rw [q, h0] at he; cases he
  obtain ⟨c, hh, hob, hinj⟩ := h.ex
  refine ⟨⟨c, hh, fun j o2 hj => ?_, fun j k f1 f2 o1 o2 hj hk hf1 hf2 hb1 hb2 hbb => ?_⟩, h.mem, fun j hj => ?_⟩
  · by_cases q : j = nx
    · subst q
      rw [h1] at hj; cases hj
      obtain ⟨f, a1, ⟨q1, ob, q2, q3⟩ | ⟨q1, _⟩⟩ := hob i o hi
      · rw [he] at a1; cases a1
        exact ⟨e', Ren.set_self _ _ _, .inl ⟨hB', ob, by rw [hb]; exact q2, (hr ob q3).mono hle⟩⟩
      · rw [he] at a1; cases a1
        rw [hB] at q1; cases q1
    · have qi : j ≠ i := fun q => by subst q; rw [h3] at hj; cases hj
      rw [h2 j q qi] at hj
      obtain ⟨f, a1, ⟨q1, ob, q2, q3⟩ | q1⟩ := hob j o2 hj
      · exact ⟨f, hle _ _ a1, .inl ⟨q1, ob, q2, q3.mono hle⟩⟩
      · exact ⟨f, hle _ _ a1, .inr q1⟩
  · have old : ∀ m, m ≠ nx → ∀ o3, M'.get m = some o3 → m ≠ i ∧ M.get m = some o3 := fun m q o3 q2 => by
      have qi : m ≠ i := fun q => by subst q; rw [h3] at q2; cases q2
      exact ⟨qi, by rw [← h2 m q qi]; exact q2⟩
    by_cases q1 : j = nx
    · by_cases q2 : k = nx
      · omega
      · exfalso
        subst q1
        rw [Ren.set_self] at hf1; cases hf1
        rw [Ren.set_ne _ q2] at hf2
        obtain ⟨p1, p2⟩ := old k q2 o2 hk
        exact p1 (hinj k i f2 e o2 o p2 hi hf2 he hb2 hB (by rw [← hb, hbb]))
    · by_cases q2 : k = nx
      · exfalso
        subst q2
        rw [Ren.set_self] at hf2; cases hf2
        rw [Ren.set_ne _ q1] at hf1
        obtain ⟨p1, p2⟩ := old j q1 o1 hj
        exact p1 (hinj j i f1 e o1 o p2 hi hf1 he hb1 hB (by rw [hbb, hb]))
      · rw [Ren.set_ne _ q1] at hf1
        rw [Ren.set_ne _ q2] at hf2
        exact hinj j k f1 f2 o1 o2 (old j q1 o1 hj).2 (old k q2 o2 hk).2 hf1 hf2 hb1 hb2 hbb
  · rw [Ren.set_ne _ (by omega)]
    exact h.fresh j (by omega)
theorem Sim.reobj (h : Sim E ρ G F M nx w) {i : Nat} {o o' : AObj} (hi : M.get i = some o) (hB : ∀ e, hasB e o' = hasB e o) (hr : ∀ e ob, ρ i = some e → ORel E ρ e o ob → ORel E ρ e o' ob) (hn : NilO o → NilO o') {M' : T} (h1 : M'.get i = some o') (h2 : ∀ m, m ≠ i → M'.get m = M.get m) : Sim E ρ G F M' nx w := by
  obtain ⟨c, hh, hob, hinj⟩ := h.ex
  have old : ∀ m o2, M'.get m = some o2 → ∃ o3, M.get m = some o3 ∧ ∀ e, hasB e o2 = hasB e o3 := fun m o2 hm => by
    by_cases q1 : m = i
    · subst q1
      rw [h1] at hm; cases hm
      exact ⟨_, hi, hB⟩
    · rw [h2 m q1] at hm
      exact ⟨o2, hm, fun e => rfl⟩
  refine ⟨⟨c, hh, fun m o2 hm => ?_, fun m k e f o2 o3 hm hk he hf hb1 hb2 hb => ?_⟩, h.mem, h.fresh⟩
  · by_cases q1 : m = i
    · subst q1
      rw [h1] at hm; cases hm
      obtain ⟨e, a1, ⟨b1, ob, b2, b3⟩ | ⟨b1, b2⟩⟩ := hob m _ hi
      · exact ⟨e, a1, .inl ⟨by rw [hB]; exact b1, ob, b2, hr e ob a1 b3⟩⟩
      · exact ⟨e, a1, .inr ⟨by rw [hB]; exact b1, hn b2⟩⟩
    · rw [h2 m q1] at hm
      exact hob m o2 hm
  · obtain ⟨o4, f1, f2⟩ := old m o2 hm
    obtain ⟨o5, f3, f4⟩ := old k o3 hk
    rw [f2] at hb1
    rw [f4] at hb2
    exact hinj m k e f o4 o5 f1 f3 he hf hb1 hb2 hb
theorem bornV_ok (h : Sim E ρ G F M nx w) {v : AV} {Ty sz : Nat} {α : Type} {enc : α → List PL} {K : AV → T → Nat → Bool} (hk : bornV v Ty sz α enc M nx K = true) :
    ∃ v' M' nx' ρ', ρ.Le ρ' ∧ Sim E ρ' G F M' nx' w ∧ K v' M' nx' = true ∧ (∀ x, den E ρ v = some x → den E ρ' v' = some x) ∧ v ≠ .bad := by
  have h0 := h.fresh nx (Nat.le_refl _)
  rcases ifB_ok hk with ⟨-, g⟩ | ⟨-, hk⟩
  · replace g := asSy_ok g
    clear hk
    obtain ⟨s, rfl, g⟩ := g
    cases s <;> first | (cases g; done) | skip
    case prow i n =>
      obtain ⟨Ty', sz', α', l, enc', hi, g1⟩ := prowOf_ok g
      obtain ⟨q1, g2⟩ := must_ok g1
      obtain ⟨q2, g3⟩ := must_ok g2
      have q1 := Nat.eq_of_beq_eq_true q1
      have q2 := Nat.eq_of_beq_eq_true q2
      subst q1; subst q2
      obtain ⟨hl, g4⟩ := mustP_ok g3
      subst hl
      obtain ⟨M', g5, s1, s2⟩ := T.set_ok _ _ _ _ _ g4
      refine ⟨_, M', nx, ρ, Ren.Le.refl _, h.reobj (o' := .prow Ty sz α [] enc) hi (fun e => rfl) (fun e ob _ hr => ?_) (fun q => ⟨rfl, q.2⟩) s1 s2, g5, fun x hx => hx, by simp⟩
      obtain ⟨arr, xs, o1, o2, o3, o4, o5, o6, o7⟩ := hr
      exact ⟨arr, xs, o1, o2, fun y hy => (by simp at hy), by simpa using o4, o5, o6, o7⟩
  rcases asSl_ok hk with ⟨e, g⟩ | ⟨i, o, n, c, e, g⟩
  · obtain ⟨g1, g2⟩ := must_ok g
    rw [Nat.blt_eq] at g1
    obtain ⟨M', k1, s1, s2⟩ := T.set_ok _ _ _ _ _ g2
    rw [fN_eq] at k1
    have hle := Ren.le_set (ρ := ρ) ⟨0, 0⟩ h0
    refine ⟨_, M', nx + 1, _, hle, h.nilRow g1 s1 s2, k1, (fun x hx => ?_), (by rw [e]; simp)⟩
    rw [e] at hx
    cases hx
    simp [den, denS, Ren.set_self, hdrP]
  · obtain ⟨q2, g2⟩ := must_ok g
    have q2 := Nat.eq_of_beq_eq_true q2
    subst q2
    obtain ⟨gr, Ty', sz', els, hi, g3⟩ := blkOf_ok g2
    obtain ⟨q4, g5⟩ := must_ok g3
    obtain ⟨q5, g6⟩ := must_ok g5
    have q4 := Nat.eq_of_beq_eq_true q4
    have q5 := Nat.eq_of_beq_eq_true q5
    subst q4; subst q5
    obtain ⟨f, arr, xs, e1, e2, e3, e4, e5, e6, e7, e8, e9⟩ := h.cellsAt hi
    have hinx : i ≠ nx := fun q => by rw [q, h0] at e1; cases e1
    cases c with
    | ex c =>
      obtain ⟨q1, g7⟩ := must_ok g6
      obtain ⟨q3, g8⟩ := must_ok g7
      obtain ⟨q6, g9⟩ := must_ok g8
      obtain ⟨q7, g10⟩ := must_ok g9
      have q1 : gr = false := by cases gr; rfl; cases q1
      subst q1
      have q3 := Nat.eq_of_beq_eq_true q3
      subst q3
      have q6 : els.length = c := by rw [← lenL_eq]; exact Nat.eq_of_beq_eq_true q6
      rw [Nat.ble_eq] at q7
      obtain ⟨M1, k1, s1, s2⟩ := T.set_ok _ _ _ _ _ g10
      obtain ⟨M', k2, s3, s4⟩ := T.set_ok _ _ _ _ _ k1
      rw [fN_eq] at k2
      have hle := Ren.le_set (ρ := ρ) ⟨f.b, c + 1⟩ h0
      refine ⟨_, M', nx + 1, _, hle, h.rekey (o' := .prow Ty sz α [] enc) (e' := ⟨f.b, c + 1⟩) hi e1 rfl rfl (hasB_prow rfl) (fun ob hr => ?_) s3 (fun m a1 a2 => by rw [s4 m a1, s2 m a2]) (by rw [s4 i hinx, s1]), k2, (fun x hx => ?_), (by rw [e]; simp)⟩
      · obtain ⟨_, _, arr', xs', o1, o2, o3⟩ := hr
        simp only [cond_false] at o3
        have hl := denL_len o2
        rw [flat_len e4, ← o3, Array.length_toList] at hl
        refine ⟨arr', [], o1, e5, fun y hy => (by simp at hy), by simp [denPs], ?_, by simp, by simp, by simpa [maxLen] using q7⟩
        simp only [Nat.add_sub_cancel]
        rw [hl, q6]
      · rw [e] at hx
        simp only [den, e1, capOf] at hx
        cases hx
        simp [den, denS, Ren.set_self, hdrP]
    | rest k =>
      obtain ⟨q1, g7⟩ := must_ok g6
      have q1 := Nat.eq_of_beq_eq_true q1
      subst q1
      obtain ⟨q3, g8⟩ := must_ok g7
      subst q3
      obtain ⟨q6, g9⟩ := must_ok g8
      have q6 : els.length = n := by rw [← lenL_eq]; exact Nat.eq_of_beq_eq_true q6
      obtain ⟨p1, p2, p3⟩ := e9 rfl
      obtain ⟨pss, g10, r1, r2, r3, r4⟩ := toPss_ok e3 e4 g9
      obtain ⟨l, g11⟩ := exB_ok g10
      obtain ⟨hl, g12⟩ := mustP_ok g11
      obtain ⟨M1, k1, s1, s2⟩ := T.set_ok _ _ _ _ _ g12
      obtain ⟨M', k2, s3, s4⟩ := T.set_ok _ _ _ _ _ k1
      rw [fN_eq] at k2
      have hle := Ren.le_set (ρ := ρ) ⟨f.b, f.cap + 1⟩ h0
      have hlen : l.length = els.length := by rw [← r4, ← hl, List.length_map]
      refine ⟨_, M', nx + 1, _, hle, h.rekey (o' := .prow Ty sz α l enc) (e' := ⟨f.b, f.cap + 1⟩) hi e1 rfl rfl (hasB_prow rfl) (fun ob hr => ?_) s3 (fun m a1 a2 => by rw [s4 m a1, s2 m a2]) (by rw [s4 i hinx, s1]), k2, (fun x hx => ?_), (by rw [e]; simp)⟩
      · obtain ⟨_, _, arr', xs', o1, o2, o3⟩ := hr
        rw [e3] at o2
        cases o2
        simp only [cond_true] at o3
        obtain ⟨u1, u2, u3, u4⟩ := o3
        have hx : xs = (l.flatMap enc).map valP := by rw [r1, ← hl, List.flatMap_def]
        refine ⟨arr', xs, o1, e5, fun y hy => r3 _ (by rw [← hl]; exact List.mem_map.2 ⟨y, hy, rfl⟩), by rw [hx]; exact denPs_mk (fun p hp => r2 p (by rw [← hl, ← List.flatMap_def]; exact hp)), by simpa using u1, by rw [hlen]; exact u2, by rw [hlen]; simpa using u3, by simpa using u4⟩
      · rw [e] at hx
        simp only [den, e1, capOf] at hx
        cases hx
        simp [den, denS, Ren.set_self, hdrP, hlen, q6]
noncomputable def bornX (t Ty sz : Nat) (α : Type) (enc : α → List PL) (S : SL) (M : T) (nx : Nat) (K : SL → T → Nat → Bool) : Bool := bornV (getS t S) Ty sz α enc M nx fun v M nx => K (.cons t v S) M nx
theorem bornX_ok {N : Nat} {S : SL} {a : Act} (s : SR E ρ N S a) (h : Sim E ρ G F M nx w) {t Ty sz : Nat} {α : Type} {enc : α → List PL} {K : SL → T → Nat → Bool} (hk : bornX t Ty sz α enc S M nx K = true) :
    ∃ S' M' nx' ρ', ρ.Le ρ' ∧ SR E ρ' N S' a ∧ Sim E ρ' G F M' nx' w ∧ K S' M' nx' = true := by
  obtain ⟨v', M', nx', ρ', hl, h1, h2, h3, h4⟩ := bornV_ok h hk
  refine ⟨_, M', nx', ρ', hl, ⟨s.size, s.defs, fun u => ?_⟩, h1, h2⟩
  by_cases q : t = u
  · subst q
    rw [getS_self]
    obtain ⟨x, q1, q2⟩ := (s.at_ t).resolve_left h4
    exact .inr ⟨x, h3 x q1, q2⟩
  · rw [getS_ne _ _ q]
    exact (s.mono hl).at_ u
theorem Sim.swap (h : Sim E ρ G F M nx w) {i q r : Nat} {g : Bool} {Ty sz : Nat} {els : List (List AV)} {el : List AV} {v v' : AV} (hi : M.get i = some (.blk g Ty sz els)) (hq : els[q]? = some el) (hr : el[r]? = some v)
    (hv : ∀ x, den E ρ v = some x → den E ρ v' = some x) {M' : T} (h1 : M'.get i = some (.blk g Ty sz (els.take q ++ [el.take r ++ [v'] ++ el.drop (r + 1)] ++ els.drop (q + 1)))) (h2 : ∀ m, m ≠ i → M'.get m = M.get m) : Sim E ρ G F M' nx w := by
  obtain ⟨c, hh, hob, hinj⟩ := h.ex
  have hle1 := (List.getElem?_eq_some_iff.1 hq).1
  have hle2 := (List.getElem?_eq_some_iff.1 hr).1
  have old : ∀ m o, M'.get m = some o → ∃ o2, M.get m = some o2 ∧ ∀ e, hasB e o = hasB e o2 := fun m o hm => by
    by_cases q1 : m = i
    · subst q1
      rw [h1] at hm; cases hm
      exact ⟨_, hi, fun e => rfl⟩
    · rw [h2 m q1] at hm
      exact ⟨o, hm, fun e => rfl⟩
  refine ⟨⟨c, hh, fun m o hm => ?_, fun m k e f o o' hm hk he hf hb1 hb2 hb => ?_⟩, h.mem, h.fresh⟩
  · by_cases q1 : m = i
    · subst q1
      rw [h1] at hm; cases hm
      obtain ⟨e, a1, ⟨b1, ob, b2, b3⟩ | ⟨b1, b2⟩⟩ := hob m _ hi
      · refine ⟨e, a1, .inl ⟨rfl, ob, b2, ?_⟩⟩
        obtain ⟨c1, c2, arr, xs, c3, c4, c5⟩ := b3
        have hel : ∀ l ∈ els.take q ++ [el.take r ++ [v'] ++ el.drop (r + 1)] ++ els.drop (q + 1), l.length = sz := by
          intro l hl
          simp only [List.mem_append, List.mem_singleton] at hl
          have := c1 el (List.mem_of_getElem? hq)
          rcases hl with (hl | rfl) | hl
          · exact c1 l (List.mem_of_mem_take hl)
          · simp only [List.length_append, List.length_take, List.length_drop, List.length_singleton]; omega
          · exact c1 l (List.mem_of_mem_drop hl)
        have hlen : (els.take q ++ [el.take r ++ [v'] ++ el.drop (r + 1)] ++ els.drop (q + 1)).length = els.length := by
          simp only [List.length_append, List.length_take, List.length_drop, List.length_singleton]; omega
        have e1 : els = els.take q ++ [el] ++ els.drop (q + 1) := by
          rw [List.append_assoc, List.singleton_append]
          have := List.take_append_drop q els
          rw [List.drop_eq_getElem_cons hle1] at this
          rw [← (List.getElem?_eq_some_iff.1 hq).2]; exact this.symm
        have e2 : el = el.take r ++ [v] ++ el.drop (r + 1) := by
          rw [List.append_assoc, List.singleton_append]
          have := List.take_append_drop r el
          rw [List.drop_eq_getElem_cons hle2] at this
          rw [← (List.getElem?_eq_some_iff.1 hr).2]; exact this.symm
        have hd : denL E ρ (els.take q ++ [el.take r ++ [v'] ++ el.drop (r + 1)] ++ els.drop (q + 1)).flatten = some xs := by
          rw [e1] at c4
          simp only [List.flatten_append, List.flatten_cons, List.flatten_nil, List.append_nil] at c4 ⊢
          obtain ⟨y1, z1, d1, d2, rfl⟩ := denL_split c4
          obtain ⟨y2, z2, d3, d4, rfl⟩ := denL_split d1
          rw [e2] at d4
          obtain ⟨y3, z3, d5, d6, rfl⟩ := denL_split d4
          obtain ⟨y4, z4, d7, d8, rfl⟩ := denL_split d5
          obtain ⟨x, _, d9, d10, rfl⟩ := denL_cons d8
          refine denL_app (denL_app d3 (denL_app (denL_app d7 ?_) d6)) d2
          exact denL_mk (hv x d9) d10
        refine ⟨hel, c2, arr, xs, c3, hd, ?_⟩
        rw [hlen]; exact c5
      · cases b1
    · rw [h2 m q1] at hm
      exact hob m o hm
  · obtain ⟨o2, f1, f2⟩ := old m o hm
    obtain ⟨o3, f3, f4⟩ := old k o' hk
    rw [f2] at hb1
    rw [f4] at hb2
    exact hinj m k e f o2 o3 f1 f3 he hf hb1 hb2 hb
noncomputable def cellX (i q r Ty sz : Nat) (α : Type) (enc : α → List PL) (M : T) (nx : Nat) (K : T → Nat → Bool) : Bool :=
  blkOf M i fun _ _ _ els => atO (nth els q) fun el => atO (nth el r) fun v => ifB (isSy v) (K M nx) (bornV v Ty sz α enc M nx fun v' M' nx' => blkOf M' i fun g T2 s2 els => atO (nth els q) fun el' => atO (nth el' r) fun v2 => must (prB (v2 = v))
    (upd el' r [v'] fun e2 => upd els q [e2] fun els2 => T.set fuelT M' i (some (.blk g T2 s2 els2)) fun M2 => K M2 nx'))
theorem cellX_ok (h : Sim E ρ G F M nx w) {i q r Ty sz : Nat} {α : Type} {enc : α → List PL} {K : T → Nat → Bool} (hk : cellX i q r Ty sz α enc M nx K = true) :
    ∃ M' nx' ρ', ρ.Le ρ' ∧ Sim E ρ' G F M' nx' w ∧ K M' nx' = true := by
  obtain ⟨g, T1, s1, els, h1, hk⟩ := blkOf_ok hk
  obtain ⟨el, h2, hk⟩ := atO_ok hk
  obtain ⟨v, h3, hk⟩ := atO_ok hk
  rcases ifB_ok hk with ⟨-, hk⟩ | ⟨-, hk⟩
  · exact ⟨M, nx, ρ, Ren.Le.refl _, h, hk⟩
  obtain ⟨v', M', nx', ρ', le, sm, hk, hv, hb⟩ := bornV_ok h hk
  obtain ⟨g, T2, s2, els2, h4, hk⟩ := blkOf_ok hk
  obtain ⟨el2, h5, hk⟩ := atO_ok hk
  obtain ⟨v2, h6, hk⟩ := atO_ok hk
  obtain ⟨hvv, hk2⟩ := mustP_ok hk
  obtain ⟨hk3, l1⟩ := upd_ok hk2
  obtain ⟨hk4, l2⟩ := upd_ok hk3
  obtain ⟨M2, hk5, g1, g2⟩ := T.set_ok _ _ _ _ _ hk4
  clear hk hk2 hk3 hk4
  subst hvv
  rw [nth_eq] at h2 h3 h5 h6
  refine ⟨M2, nx', ρ', le, sm.swap h4 h5 h6 (fun x hx => ?_) g1 g2, hk5⟩
  -- the cell's value is known already in the old numbers
  obtain ⟨e, arr, xs, e1, e2, e3, e4, e5, e6, e7, e8, e9⟩ := h.cellsAt h1
  have hmem : v2 ∈ els.flatten := List.mem_flatten.2 ⟨el, List.mem_of_getElem? h2, List.mem_of_getElem? h3⟩
  obtain ⟨k, hk2⟩ := List.mem_iff_getElem?.1 hmem
  obtain ⟨y, y1, _⟩ := denL_at e3 hk2
  have := den_mono le v2 y y1
  rw [this] at hx
  cases hx
  exact hv _ y1
noncomputable def frzcX (i q r : Nat) (M : T) (K : T → Bool) : Bool :=
  blkOf M i fun _ _ _ els => atO (nth els q) fun el => atO (nth el r) fun v => frz1 v M fun u M' => blkOf M' i fun g T2 s2 els => atO (nth els q) fun el' => atO (nth el' r) fun v2 => must (prB (v2 = v))
    (upd el' r [u] fun e2 => upd els q [e2] fun els2 => T.set fuelT M' i (some (.blk g T2 s2 els2)) K)
theorem frzcX_ok (h : Sim E ρ G F M nx w) {i q r : Nat} {K : T → Bool} (hk : frzcX i q r M K = true) :
    ∃ E' M', EEq ρ E E' ∧ E'.at_ = E.at_ ∧ Sim E' ρ G F M' nx w ∧ K M' = true := by
  obtain ⟨g, T1, s1, els, h1, hk⟩ := blkOf_ok hk
  obtain ⟨el, h2, hk⟩ := atO_ok hk
  obtain ⟨v, h3, hk⟩ := atO_ok hk
  rw [nth_eq] at h2 h3
  obtain ⟨e, arr, xs, e1, e2, e3, e4, e5, e6, e7, e8, e9⟩ := h.cellsAt h1
  have hmem : v ∈ els.flatten := List.mem_flatten.2 ⟨el, List.mem_of_getElem? h2, List.mem_of_getElem? h3⟩
  obtain ⟨k, hk2⟩ := List.mem_iff_getElem?.1 hmem
  obtain ⟨y, y1, _⟩ := denL_at e3 hk2
  obtain ⟨E1, M1, u, f1, f2, f3, f4, hk3⟩ := frz1_ok h y1 hk
  obtain ⟨g, T2, s2, els2, h4, hk4⟩ := blkOf_ok hk3
  obtain ⟨el2, h5, hk5⟩ := atO_ok hk4
  obtain ⟨v2, h6, hk6⟩ := atO_ok hk5
  obtain ⟨hvv, hk7⟩ := mustP_ok hk6
  obtain ⟨hk8, l1⟩ := upd_ok hk7
  obtain ⟨hk9, l2⟩ := upd_ok hk8
  obtain ⟨M2, hk10, g1, g2⟩ := T.set_ok _ _ _ _ _ hk9
  subst hvv
  rw [nth_eq] at h5 h6
  refine ⟨E1, M2, f1, f2, f3.swap h4 h5 h6 (fun x hx => ?_) g1 g2, hk10⟩
  rw [den_env f1 _ _ y1] at hx
  cases hx
  exact den_mono (ρ := fun _ => none) (fun _ _ q => by cases q) u y f4
noncomputable def frc0 (v : AV) (K : AV → Bool) : Bool := AV.casesOn v (K .bad) (fun k z => K (.int k z)) (fun b => K (.bool b)) (fun l => K (.str l)) (fun i o => K (.ptr i o)) (fun i o n c => K (.sl i o n c)) (fun i => K (.map i)) (K .nilP) (K .nilS) (K .nilM) (K .nilF) (K .nilI) (fun t v => K (.iface t v)) (fun f c => K (.fn f c)) (fun i => K (.yl i)) (fun l => K (.agg l)) (fun l => K (.tup l)) (fun i => K (.any i)) (fun s => K (.sy s))
theorem frc0_ok {v : AV} {K : AV → Bool} (h : frc0 v K = true) : K v = true := by
  cases v <;> exact h
noncomputable def upV (v : AV) : AV := AV.casesOn v .bad (fun k z => .sy (.int k z)) (fun b => .sy (.bool (b = true))) (fun l => .sy (.str (l.map UInt8.ofNat))) (fun i o => .ptr i o) (fun i o n c => .sl i o n c) (fun i => .map i) .nilP .nilS .nilM .nilF .nilI (fun t v => .iface t v) (fun f c => .fn f c) (fun i => .yl i) (fun l => .agg l) (fun l => .tup l) (fun i => .any i) (fun s => .sy s)
theorem upV_den {v : AV} {x : Value} (h : den E ρ v = some x) : den E ρ (upV v) = some x := by
  cases v <;> first | exact h | skip
  case bool b =>
    simp only [den] at h
    cases h
    show denS E ρ (.bool (b = true)) = _
    simp only [denS, prB_bool]
noncomputable def upX (t : Nat) (S : SL) (K : SL → Bool) : Bool := frc0 (upV (getS t S)) fun v => K (.cons t v S)
theorem upX_ok {N : Nat} {S : SL} {a : Act} (s : SR E ρ N S a) {t : Nat} {K : SL → Bool} (hk : upX t S K = true) : ∃ S', SR E ρ N S' a ∧ K S' = true := by
  have hk := frc0_ok hk
  refine ⟨_, ⟨s.size, s.defs, fun u => ?_⟩, hk⟩
  by_cases q : t = u
  · subst q
    rw [getS_self]
    rcases s.at_ t with q | ⟨x, q1, q2⟩
    · rw [q]; exact .inl rfl
    · exact .inr ⟨x, upV_den q1, q2⟩
  · rw [getS_ne _ _ q]
    exact s.at_ u
noncomputable def hasC (M : T) (i q r : Nat) : Bool := Option.casesOn (M.get i) false fun ob => AObj.casesOn ob (fun _ _ _ els => Option.casesOn (nth els q) false fun el => Option.casesOn (nth el r) false fun _ => true) (fun _ _ => false) (fun _ _ _ _ => false) false (fun _ _ _ _ _ => false)
noncomputable def upcX (i q r : Nat) (M : T) (K : T → Bool) : Bool := ifB (hasC M i q r) (blkOf M i fun g Ty sz els => atO (nth els q) fun el => atO (nth el r) fun v => frc0 (upV v) fun v' => upd el r [v'] fun e2 => upd els q [e2] fun els2 => T.set fuelT M i (some (.blk g Ty sz els2)) K) (K M)
theorem upcX_ok (h : Sim E ρ G F M nx w) {i q r : Nat} {K : T → Bool} (hk : upcX i q r M K = true) : ∃ M', Sim E ρ G F M' nx w ∧ K M' = true := by
  rcases ifB_ok hk with ⟨-, hk⟩ | ⟨-, hk⟩
  case inr => exact ⟨M, h, hk⟩
  obtain ⟨g, Ty, sz, els, h1, hk⟩ := blkOf_ok hk
  obtain ⟨el, h2, hk⟩ := atO_ok hk
  obtain ⟨v, h3, hk⟩ := atO_ok hk
  have hk := frc0_ok hk
  obtain ⟨hk, l1⟩ := upd_ok hk
  obtain ⟨hk, l2⟩ := upd_ok hk
  obtain ⟨M2, hk, g1, g2⟩ := T.set_ok _ _ _ _ _ hk
  rw [nth_eq] at h2 h3
  exact ⟨M2, h.swap h1 h2 h3 (fun x hx => upV_den hx) g1 g2, hk⟩
theorem Sim.swapM (h : Sim E ρ G F M nx w) {i : Nat} {es es' : List (AV × AV × Nat)} {cl : Nat} (hi : M.get i = some (.map es cl)) (hv : ∀ ms, denE E ρ es = some ms → denE E ρ es' = some ms) {M' : T} (h1 : M'.get i = some (.map es' cl)) (h2 : ∀ m, m ≠ i → M'.get m = M.get m) : Sim E ρ G F M' nx w := by
  obtain ⟨c, hh, hob, hinj⟩ := h.ex
  have old : ∀ m o, M'.get m = some o → ∃ o2, M.get m = some o2 ∧ ∀ e, hasB e o = hasB e o2 := fun m o hm => by
    by_cases q1 : m = i
    · subst q1
      rw [h1] at hm; cases hm
      exact ⟨_, hi, fun e => rfl⟩
    · rw [h2 m q1] at hm
      exact ⟨o, hm, fun e => rfl⟩
  refine ⟨⟨c, hh, fun m o hm => ?_, fun m k e f o o' hm hk he hf hb1 hb2 hb => ?_⟩, h.mem, h.fresh⟩
  · by_cases q1 : m = i
    · subst q1
      rw [h1] at hm; cases hm
      obtain ⟨e, a1, ⟨b1, ob, b2, b3⟩ | ⟨b1, b2⟩⟩ := hob m _ hi
      · obtain ⟨ms, c1, c2⟩ := b3
        exact ⟨e, a1, .inl ⟨rfl, ob, b2, ms, hv ms c1, c2⟩⟩
      · cases b1
    · rw [h2 m q1] at hm
      exact hob m o hm
  · obtain ⟨o2, f1, f2⟩ := old m o hm
    obtain ⟨o3, f3, f4⟩ := old k o' hk
    rw [f2] at hb1
    rw [f4] at hb2
    exact hinj m k e f o2 o3 f1 f3 he hf hb1 hb2 hb
noncomputable def upE (es : List (AV × AV × Nat)) (K : List (AV × AV × Nat) → Bool) : Bool := List.rec (motive := fun _ => (List (AV × AV × Nat) → Bool) → Bool) (fun K => K []) (fun e _ ih K => frc0 (upV e.2.1) fun v => ih fun l => K ((e.1, v, e.2.2) :: l)) es K
theorem upE_ok : ∀ {es : List (AV × AV × Nat)} {K : List (AV × AV × Nat) → Bool}, upE es K = true → ∃ es', K es' = true ∧ ∀ ms, denE E ρ es = some ms → denE E ρ es' = some ms
  | [], K, h => ⟨[], h, fun ms q => q⟩
  | (k, v, b) :: es, K, h => by
    have h1 := frc0_ok (show frc0 (upV v) (fun v => upE es fun l => K ((k, v, b) :: l)) = true from h)
    obtain ⟨es', h2, h3⟩ := upE_ok h1
    refine ⟨_, h2, fun ms q => ?_⟩
    obtain ⟨x, y, ms', q1, q2, q3, rfl⟩ := denE_cons q
    simp only [denE, q1, upV_den q2, h3 _ q3]
noncomputable def upmX (i : Nat) (M : T) (K : T → Bool) : Bool := mapOf M i fun es cl => upE es fun es' => T.set fuelT M i (some (.map es' cl)) K
theorem upmX_ok (h : Sim E ρ G F M nx w) {i : Nat} {K : T → Bool} (hk : upmX i M K = true) : ∃ M', Sim E ρ G F M' nx w ∧ K M' = true := by
  obtain ⟨es, cl, h1, hk⟩ := mapOf_ok hk
  obtain ⟨es', hk, h2⟩ := upE_ok (E := E) (ρ := ρ) hk
  obtain ⟨M2, hk, g1, g2⟩ := T.set_ok _ _ _ _ _ hk
  exact ⟨M2, h.swapM h1 h2 g1 g2, hk⟩
noncomputable def fixX (t n : Nat) (S : SL) (K : SL → Bool) : Bool := AV.casesOn (getS t S) false (fun _ _ => K S) (fun _ => false) (fun _ => false) (fun _ _ => false) (fun _ _ _ _ => false) (fun _ => false) false false false false false (fun _ _ => false) (fun _ _ => false) (fun _ => false) (fun _ => false) (fun _ => false) (fun _ => false)
  (fun s => SY.casesOn s (fun k z => fork n z (fun j => fN j fun j => K (.cons t (.int k (Int.ofNat j)) S)) 0) (fun _ => false) (fun _ => false) (fun _ _ _ _ _ => false) (fun _ _ _ => false) (fun _ _ => false) (fun _ _ _ _ => false) (fun _ _ _ _ => false) (fun _ _ _ => false))
theorem fixX_ok {N : Nat} {S : SL} {a : Act} (s : SR E ρ N S a) {t n : Nat} {K : SL → Bool} (hk : fixX t n S K = true) : ∃ S', SR E ρ N S' a ∧ K S' = true := by
  unfold fixX at hk
  generalize e : getS t S = v at hk
  cases v <;> first | (cases hk; done) | exact ⟨S, s, hk⟩ | skip
  case sy s' =>
    cases s' <;> first | (cases hk; done) | skip
    case int k z =>
      obtain ⟨j, h1, _, h2⟩ := fork_ok (show fork n z (fun j => fN j fun j => K (.cons t (.int k (Int.ofNat j)) S)) 0 = true from hk)
      rw [fN_eq] at h2
      refine ⟨_, ⟨s.size, s.defs, fun u => ?_⟩, h2⟩
      by_cases q : t = u
      · subst q
        rw [getS_self]
        rcases s.at_ t with q | ⟨x, q1, q2⟩
        · rw [e] at q; cases q
        · refine .inr ⟨x, ?_, q2⟩
          rw [e] at q1
          rw [← q1, h1]
          rfl
      · rw [getS_ne _ _ q]
        exact s.at_ u
noncomputable def fixcX (i q r n : Nat) (M : T) (K : T → Bool) : Bool := blkOf M i fun g Ty sz els => atO (nth els q) fun el => atO (nth el r) fun v => AV.casesOn v false (fun _ _ => K M) (fun _ => false) (fun _ => false) (fun _ _ => false) (fun _ _ _ _ => false) (fun _ => false) false false false false false (fun _ _ => false) (fun _ _ => false) (fun _ => false) (fun _ => false) (fun _ => false) (fun _ => false)
  (fun s => SY.casesOn s (fun k z => fork n z (fun j => fN j fun j => upd el r [.int k (Int.ofNat j)] fun e2 => upd els q [e2] fun els2 => T.set fuelT M i (some (.blk g Ty sz els2)) K) 0) (fun _ => false) (fun _ => false) (fun _ _ _ _ _ => false) (fun _ _ _ => false) (fun _ _ => false) (fun _ _ _ _ => false) (fun _ _ _ _ => false) (fun _ _ _ => false))
theorem fixcX_ok (h : Sim E ρ G F M nx w) {i q r n : Nat} {K : T → Bool} (hk : fixcX i q r n M K = true) : ∃ M', Sim E ρ G F M' nx w ∧ K M' = true := by
  obtain ⟨g, Ty, sz, els, h1, hk1⟩ := blkOf_ok hk
  obtain ⟨el, h2, hk2⟩ := atO_ok hk1
  obtain ⟨v, h3, hk3⟩ := atO_ok hk2
  clear hk hk1 hk2
  rw [nth_eq] at h2 h3
  cases v <;> first | (cases hk3; done) | exact ⟨M, h, hk3⟩ | skip
  case sy s' =>
    cases s' <;> first | (cases hk3; done) | skip
    case int k z =>
      obtain ⟨j, e1, _, e2⟩ := fork_ok (show fork n z (fun j => fN j fun j => upd el r [.int k (Int.ofNat j)] fun e2 => upd els q [e2] fun els2 => T.set fuelT M i (some (.blk g Ty sz els2)) K) 0 = true from hk3)
      rw [fN_eq] at e2
      obtain ⟨e3, l1⟩ := upd_ok e2
      obtain ⟨e4, l2⟩ := upd_ok e3
      obtain ⟨M2, e5, g1, g2⟩ := T.set_ok _ _ _ _ _ e4
      refine ⟨M2, h.swap h1 h2 h3 (v' := .int k (Int.ofNat j)) (fun x hx => ?_) g1 g2, e5⟩
      rw [← hx, e1]
      rfl
noncomputable def forkO (n : Nat) (z : Int) (K : Nat → Bool) (D : Bool) : Nat → Bool := Nat.rec (fun _ => D) (fun _ ih k => ifB (prB (z = Int.ofNat k)) (K k) (ih (Nat.succ k))) n
theorem forkO_ok {z : Int} {K : Nat → Bool} {D : Bool} : ∀ {n k : Nat}, forkO n z K D k = true → (∃ j : Nat, z = (j : Int) ∧ K j = true) ∨ D = true
  | 0, k, h => .inr h
  | n + 1, k, h => by
    have h' : ifB (prB (z = Int.ofNat k)) (K k) (forkO n z K D (Nat.succ k)) = true := h
    rcases ifP_ok h' with ⟨q, g⟩ | ⟨_, g⟩
    · exact .inl ⟨k, q, g⟩
    · exact forkO_ok g
noncomputable def fixoX (i q r n : Nat) (M : T) (K : T → Bool) : Bool := blkOf M i fun g Ty sz els => atO (nth els q) fun el => atO (nth el r) fun v => AV.casesOn v false (fun _ _ => K M) (fun _ => false) (fun _ => false) (fun _ _ => false) (fun _ _ _ _ => false) (fun _ => false) false false false false false (fun _ _ => false) (fun _ _ => false) (fun _ => false) (fun _ => false) (fun _ => false) (fun _ => false)
  (fun s => SY.casesOn s (fun k z => forkO n z (fun j => fN j fun j => upd el r [.int k (Int.ofNat j)] fun e2 => upd els q [e2] fun els2 => T.set fuelT M i (some (.blk g Ty sz els2)) K) (K M) 0) (fun _ => false) (fun _ => false) (fun _ _ _ _ _ => false) (fun _ _ _ => false) (fun _ _ => false) (fun _ _ _ _ => false) (fun _ _ _ _ => false) (fun _ _ _ => false))
theorem fixoX_ok (h : Sim E ρ G F M nx w) {i q r n : Nat} {K : T → Bool} (hk : fixoX i q r n M K = true) : ∃ M', Sim E ρ G F M' nx w ∧ K M' = true := by
  obtain ⟨g, Ty, sz, els, h1, hk1⟩ := blkOf_ok hk
  obtain ⟨el, h2, hk2⟩ := atO_ok hk1
  obtain ⟨v, h3, hk3⟩ := atO_ok hk2
  clear hk hk1 hk2
  rw [nth_eq] at h2 h3
  cases v <;> first | (cases hk3; done) | exact ⟨M, h, hk3⟩ | skip
  case sy s' =>
    cases s' <;> first | (cases hk3; done) | skip
    case int k z =>
      rcases forkO_ok (show forkO n z (fun j => fN j fun j => upd el r [.int k (Int.ofNat j)] fun e2 => upd els q [e2] fun els2 => T.set fuelT M i (some (.blk g Ty sz els2)) K) (K M) 0 = true from hk3) with ⟨j, e1, e2⟩ | e2
      · rw [fN_eq] at e2
        obtain ⟨e3, l1⟩ := upd_ok e2
        obtain ⟨e4, l2⟩ := upd_ok e3
        obtain ⟨M2, e5, g1, g2⟩ := T.set_ok _ _ _ _ _ e4
        refine ⟨M2, h.swap h1 h2 h3 (v' := .int k (Int.ofNat j)) (fun x hx => ?_) g1 g2, e5⟩
        rw [← hx, e1]
        rfl
      · exact ⟨M, h, e2⟩
end
inductive Adm : Type 1 | can (k : Nat) (live : List Nat) | born (t Ty sz : Nat) (α : Type) (enc : α → List PL) | cell (i q r Ty sz : Nat) (α : Type) (enc : α → List PL) | up (t : Nat) | upc (i q r : Nat) | upm (i : Nat) | fix (t n : Nat) | frz (t : Nat) | fixc (i q r n : Nat) | frzc (i q r : Nat) | fixo (i q r n : Nat)
noncomputable def admsX (l : List Adm) : SL → T → Nat → (SL → T → Nat → Bool) → Bool := List.rec (fun S M nx K => K S M nx) (fun a _ ih S M nx K => Adm.casesOn a (fun k live => canX k live S M fun S M nx => ih S M nx K) (fun t Ty sz α enc => bornX t Ty sz α enc S M nx fun S M nx => ih S M nx K) (fun i q r Ty sz α enc => cellX i q r Ty sz α enc M nx fun M nx => ih S M nx K) (fun t => upX t S fun S => ih S M nx K) (fun i q r => upcX i q r M fun M => ih S M nx K) (fun i => upmX i M fun M => ih S M nx K) (fun t n => fixX t n S fun S => ih S M nx K) (fun t => frz1 (getS t S) M fun v M => ih (.cons t v S) M nx K) (fun i q r n => fixcX i q r n M fun M => ih S M nx K) (fun i q r => frzcX i q r M fun M => ih S M nx K) (fun i q r n => fixoX i q r n M fun M => ih S M nx K)) l
noncomputable def admsAt (l : List (Nat × List Adm)) (e : Nat) : List Adm := List.rec [] (fun p _ ih => Bool.rec ih p.2 (Nat.beq p.1 e)) l
noncomputable def slit0 (S : SL) : Nat := AV.casesOn (getS 0 S) 0 (fun _ z => Int.casesOn z (fun n => Nat.succ n) (fun _ => 0)) (fun _ => 0) (fun _ => 0) (fun _ _ => 0) (fun _ _ _ _ => 0) (fun _ => 0) 0 0 0 0 0 (fun _ _ => 0) (fun _ _ => 0) (fun _ => 0) (fun _ => 0) (fun _ => 0) (fun _ => 0) (fun _ => 0)
noncomputable def hasA (l : List (Nat × List Adm)) (e : Nat) : Bool := List.rec false (fun p _ ih => Bool.rec ih true (Nat.beq p.1 e)) l
noncomputable def admsSel (l : List (Nat × List Adm)) (e : Nat) (S : SL) : List Adm := Bool.rec (admsAt l e) (admsAt l (Nat.add e (Nat.mul 1000 (slit0 S)))) (hasA l (Nat.add e (Nat.mul 1000 (slit0 S))))
inductive XC : Type 1 | bad | skip | ret | exit (k : Nat) | reg (draw : Bool) (n : Nat) (tr : XTr) | seq (x y : XC) | cond (p : XP) (x y : XC) | block (k : Nat) (c : XC) | loop (live : List Nat) (c : XC) | inv (j : Nat) (c : XC) | aft (x : XC) (l : List (Nat × List Adm)) | pre (l : List Adm) (x : XC) | spc (j : Nat) (x : XC)
abbrev KC := Nat → SL → T → Nat → Bool
noncomputable def frc (v : AV) (K0 : Bool) (K : AV → Bool) : Bool := AV.casesOn v K0 (fun k z => K (.int k z)) (fun b => K (.bool b)) (fun l => K (.str l)) (fun i o => K (.ptr i o)) (fun i o n c => K (.sl i o n c)) (fun i => K (.map i)) (K .nilP) (K .nilS) (K .nilM) (K .nilF) (K .nilI) (fun t v => K (.iface t v)) (fun f c => K (.fn f c)) (fun i => K (.yl i)) (fun l => K (.agg l)) (fun l => K (.tup l)) (fun i => K (.any i)) (fun s => K (.sy s))
theorem frc_ok {v : AV} {K0 : Bool} {K : AV → Bool} (h : frc v K0 K = true) : (v = .bad ∧ K0 = true) ∨ K v = true := by
  cases v <;> first | exact .inr h | exact .inl ⟨rfl, h⟩
noncomputable def packX (S : SL) (live : List Nat) : SL → (SL → Bool) → Bool := List.rec (fun acc K => K acc) (fun t _ ih acc K => frc (getS t S) (ih acc K) fun v => ih (.cons t v acc) K) live
noncomputable def condX (p : XP) (S : SL) (K : Bool → SL → Bool) : Bool := XP.casesOn p (fun n => refB n S K) (fun v => asB v fun b => K b S) (fun _ => false)
abbrev LpF := Nat → SL → T → Nat → KC → Bool
noncomputable def codeX (cf : CallF) (lp : LpF) (lf : Nat) (c : XC) : SL → T → Nat → KC → Bool := XC.rec
  (fun _ _ _ _ => false) (fun S M nx K => K 0 S M nx) (fun S M nx K => K 1 S M nx) (fun k S M nx K => K k S M nx)
  (fun _ _ tr S M nx K => treeX cf tr S M nx fun S M nx => K 0 S M nx)
  (fun _ _ ihx ihy S M nx K => ihx S M nx fun e S M nx => Nat.casesOn e (ihy S M nx K) fun e' => K (Nat.succ e') S M nx)
  (fun p _ _ ihx ihy S M nx K => condX p S fun b S => ifB b (ihx S M nx K) (ihy S M nx K))
  (fun k _ ih S M nx K => ih S M nx fun e S M nx => ifB (Nat.beq e k) (K 0 S M nx) (K e S M nx))
  (fun live _ ih S M nx K => Nat.rec (motive := fun _ => SL → T → Nat → Bool) (fun _ _ _ => false) (fun _ again S M nx => packX S live .nil fun S => ih S M nx fun e S M nx => Nat.casesOn e (again S M nx) fun e' => K (Nat.succ e') S M nx) lf S M nx)
  (fun j _ _ S M nx K => lp j S M nx K)
  (fun _ l ih S M nx K => ih S M nx fun e S M nx => admsX (admsSel l e S) S M nx (K e))
  (fun l _ ih S M nx K => admsX l S M nx fun S M nx => ih S M nx K)
  (fun j _ _ S M nx K => lp j S M nx K) c
def exOf : Nat → Exit
  | 0 => .normal | 1 => .ret | n + 2 => .exit n
def noA : List XSt → Bool
  | [] => true
  | .a .. :: _ => false
  | _ :: r => noA r
def chkC (P : Program) (N : Nat) : XC → Code → Bool
  | .bad, _ => true
  | .skip, .skip => true
  | .ret, .ret => true
  | .exit k, .exit i => Nat.beq k (i + 2)
  | .reg draw n tr, .region _ ops d => decide (draw = d) && chkTr P ops N tr && (match draw, tr with | true, _ => treeB ops n [] (toTr tr) | false, .leaf sts => noA sts && Nat.beq ops.size n && decide ((sts.map fun s => (kOfSt s).1) = List.range n) | _, _ => false)
  | .seq x y, .seq a b => chkC P N x a && chkC P N y b
  | .cond p x y, .cond c a b => opOk p c && chkC P N x a && chkC P N y b
  | .block k c, .block i a => Nat.beq k (i + 2) && chkC P N c a
  | .loop _ c, .loop a => chkC P N c a
  | .inv _ c, .loop a => chkC P N c a
  | .aft x _, c => chkC P N x c
  | .pre _ x, c => chkC P N x c
  | .spc _ x, c => chkC P N x c
  | _, _ => false
def plain : XC → Bool
  | .seq x y => plain x && plain y
  | .cond _ x y => plain x && plain y
  | .block _ c => plain c
  | .loop _ c => plain c
  | .inv .. | .aft .. | .pre .. | .spc .. => false
  | _ => true
def lpsOf : XC → List (Bool × Nat × XC)
  | .seq x y => lpsOf x ++ lpsOf y
  | .cond _ x y => lpsOf x ++ lpsOf y
  | .block _ c => lpsOf c
  | .loop _ c => lpsOf c
  | .inv j c => [(true, j, c)]
  | .aft x _ => lpsOf x
  | .pre _ x => lpsOf x
  | .spc j x => [(false, j, x)]
  | _ => []
section
variable {P : Program} {E : Env} {ρ : Ren} {G : GS} {F : List Chunk} {M : T} {nx : Nat} {w : World} {N : Nat} {S : SL} {a : Act} {ops : Array Oper} {o : Oper}
theorem condX_ok (s : SR E ρ N S a) {p : XP} {c : Operand} {K : Bool → SL → Bool} (ho : opOk p c = true) (h : condX p S K = true) : ∃ b S', a.eval c = .bool b ∧ SR E ρ N S' a ∧ K b S' = true := by
  cases p with
  | t n =>
    cases c <;> simp only [opOk] at ho <;> first | (cases ho; done) | skip
    have := Nat.eq_of_beq_eq_true ho
    subst this
    obtain ⟨b, S', h1, h2, h3⟩ := refB_ok s (show refB n S K = true from h)
    exact ⟨b, S', h1, h2, h3⟩
  | c v =>
    cases c <;> simp only [opOk] at ho <;> first | (cases ho; done) | skip
    have hd := isC_ok (E := E) (ρ := ρ) ho
    obtain ⟨b, rfl, h1⟩ := asB_ok (show asB v (fun b => K b S) = true from h)
    cases hd
    exact ⟨b, S, rfl, s, h1⟩
  | f n => cases h
theorem packX_ok (s : SR E ρ N S a) : ∀ {live : List Nat} {acc : SL} {K : SL → Bool}, SR E ρ N acc a → packX S live acc K = true → ∃ S', SR E ρ N S' a ∧ K S' = true
  | [], acc, K, sa, h => ⟨acc, sa, h⟩
  | t :: live, acc, K, sa, h => by
    have h' : frc (getS t S) (packX S live acc K) (fun v => packX S live (.cons t v acc) K) = true := h
    rcases frc_ok h' with ⟨_, h1⟩ | h1
    · exact packX_ok s sa h1
    · refine packX_ok s ⟨sa.size, sa.defs, fun u => ?_⟩ h1
      by_cases e : t = u
      · subst e
        rw [getS_self]
        exact s.at_ t
      · rw [getS_ne _ _ e]
        exact sa.at_ u
theorem SR.nil (h1 : a.tmps.size = N) (h2 : a.defers = []) : SR E ρ N .nil a := ⟨h1, h2, fun _ => .inl rfl⟩
theorem wpL_ops {Q : Exit → Act → World → Prop} : ∀ {sts : List XSt} {a : Act} {w : World}, noA sts = true → wpL P ops (fun a w => Q .normal a w) (sts.map kOfSt) a w → wpOps P ops Q (sts.map fun s => (kOfSt s).1) a w
  | [], _, _, _, h => h
  | .p i d g x :: r, a, w, hn, ⟨v, h1, h2⟩ => by
    rw [List.map_cons, wpOps_cons]
    exact op1_Q ((h1 w).to (wpL_ops (Q := Q) (by simpa [noA] using hn) h2))
  | .r i d g x :: r, a, w, hn, ⟨v, h1, h2⟩ => by
    rw [List.map_cons, wpOps_cons]
    exact op1_Q (h1.to (wpL_ops (Q := Q) (by simpa [noA] using hn) h2))
  | .e i d g x :: r, a, w, hn, h => by
    rw [List.map_cons, wpOps_cons]
    exact op1_Q (op1.mono h fun a w h => wpL_ops (Q := Q) (by simpa [noA] using hn) h)
  | .c i d g f xs :: r, a, w, hn, h => by
    rw [List.map_cons, wpOps_cons]
    exact op1_Q (op1.mono h fun a w h => wpL_ops (Q := Q) (by simpa [noA] using hn) h)
  | .k i d g t f xs :: r, a, w, hn, h => by
    rw [List.map_cons, wpOps_cons]
    exact op1_Q (op1.mono h fun a w h => wpL_ops (Q := Q) (by simpa [noA] using hn) h)
  | .a i d g x :: r, a, w, hn, h => by simp [noA] at hn
structure Rel (fl : Bool) (pk : Nat) (E : Env) (ρ : Ren) (E' : Env) (ρ' : Ren) : Prop where
  one : EOk E'
  mem : MLe E.M E'.M
  ext : fl = true → Ext E ρ E' ρ'
  pin : ∀ i e, i < pk → ρ i = some e → ρ' i = some e
theorem Ext.rel {fl : Bool} {pk : Nat} {E' : Env} {ρ' : Ren} (h : Ext E ρ E' ρ') : Rel fl pk E ρ E' ρ' := ⟨h.one, h.env.mem, fun _ => h, fun i e _ q => h.le i e q⟩
theorem Rel.trans {fl : Bool} {pk : Nat} {E1 E2 E3 : Env} {r1 r2 r3 : Ren} (h : Rel fl pk E1 r1 E2 r2) (k : Rel fl pk E2 r2 E3 r3) : Rel fl pk E1 r1 E3 r3 := ⟨k.one, MLe.trans h.mem k.mem, fun q => (h.ext q).trans (k.ext q), fun i e q1 q2 => k.pin i e q1 (h.pin i e q1 q2)⟩
theorem Rel.next {pk : Nat} {E1 E2 : Env} {r1 r2 r3 : Ren} (h : Rel false pk E1 r1 E2 r2) (k : ∀ i e, i < pk → r2 i = some e → r3 i = some e) : Rel false pk E1 r1 E2 r3 := ⟨h.one, h.mem, fun q => (by cases q), fun i e q1 q2 => k i e q1 (h.pin i e q1 q2)⟩
theorem Rel.prev {pk : Nat} {E1 E2 : Env} {r1 r2 r3 : Ren} (h : Rel false pk E1 r2 E2 r3) (k : ∀ i e, i < pk → r1 i = some e → r2 i = some e) : Rel false pk E1 r1 E2 r3 := ⟨h.one, h.mem, fun q => (by cases q), fun i e q1 q2 => h.pin i e q1 (k i e q1 q2)⟩
def keepA (pk : Nat) : List Adm → Bool
  | [] => true
  | .can k _ :: l => Nat.ble pk k && keepA pk l
  | .born .. :: l => keepA pk l
  | .cell .. :: l => keepA pk l
  | .up _ :: l => keepA pk l
  | .upc .. :: l => keepA pk l
  | .upm _ :: l => keepA pk l
  | .fix .. :: l => keepA pk l
  | .frz _ :: l => keepA pk l
  | .fixc .. :: l => keepA pk l
  | .frzc .. :: l => keepA pk l
  | .fixo .. :: l => keepA pk l
def keepL (pk : Nat) : List (Nat × List Adm) → Bool
  | [] => true
  | p :: l => keepA pk p.2 && keepL pk l
def keepB (pk : Nat) : XC → Bool
  | .seq x y => keepB pk x && keepB pk y
  | .cond _ x y => keepB pk x && keepB pk y
  | .block _ c => keepB pk c
  | .loop _ c => keepB pk c
  | .aft x l => keepB pk x && keepL pk l
  | .pre l x => keepA pk l && keepB pk x
  | _ => true
theorem keepL_at {pk : Nat} : ∀ {l : List (Nat × List Adm)} {e : Nat}, keepL pk l = true → keepA pk (admsAt l e) = true
  | [], e, _ => rfl
  | p :: l, e, h => by
    obtain ⟨h1, h2⟩ := and2 h
    have : admsAt (p :: l) e = (Bool.rec (admsAt l e) p.2 (Nat.beq p.1 e) : List Adm) := rfl
    rw [this]
    cases Nat.beq p.1 e
    · exact keepL_at h2
    · exact h1
theorem keepL_sel {pk : Nat} {l : List (Nat × List Adm)} {e : Nat} {S : SL} (h : keepL pk l = true) : keepA pk (admsSel l e S) = true := by
  unfold admsSel
  cases hasA l (Nat.add e (Nat.mul 1000 (slit0 S)))
  · exact keepL_at h
  · exact keepL_at h
theorem admsX_ok {pk : Nat} : ∀ {l : List Adm} {S : SL} {M : T} {nx : Nat} {E : Env} {ρ : Ren} {K : SL → T → Nat → Bool}, EOk E → keepA pk l = true → SR E ρ N S a → Sim E ρ G F M nx w → admsX l S M nx K = true → ∃ S' M' nx' E' ρ', EOk E' ∧ MLe E.M E'.M ∧ SR E' ρ' N S' a ∧ Sim E' ρ' G F M' nx' w ∧ K S' M' nx' = true ∧ ∀ i e, i < pk → ρ i = some e → ρ' i = some e
  | [], S, M, nx, E, ρ, K, hE, _, s, h, hk => ⟨S, M, nx, E, ρ, hE, MLe.refl _, s, h, hk, fun _ _ _ q => q⟩
  | .can k live :: l, S, M, nx, E, ρ, K, hE, hp, s, h, hk => by
    obtain ⟨hp1, hp2⟩ := and2 hp
    rw [Nat.ble_eq] at hp1
    obtain ⟨S1, M1, n1, ρ1, s1, h1, k1, p1⟩ := canX_ok (K := fun S M nx => admsX l S M nx K) s h hk
    obtain ⟨S2, M2, n2, E2, ρ2, o2, m2, s2, h2, k2, p2⟩ := admsX_ok hE hp2 s1 h1 k1
    exact ⟨S2, M2, n2, E2, ρ2, o2, m2, s2, h2, k2, fun i e q1 q2 => p2 i e q1 (p1 i e (Nat.lt_of_lt_of_le q1 hp1) q2)⟩
  | .born t Ty sz α enc :: l, S, M, nx, E, ρ, K, hE, hp, s, h, hk => by
    obtain ⟨S1, M1, n1, ρ1, le1, s1, h1, k1⟩ := bornX_ok (K := fun S M nx => admsX l S M nx K) s h hk
    obtain ⟨S2, M2, n2, E2, ρ2, o2, m2, s2, h2, k2, p2⟩ := admsX_ok hE (show keepA pk l = true from hp) s1 h1 k1
    exact ⟨S2, M2, n2, E2, ρ2, o2, m2, s2, h2, k2, fun i e q1 q2 => p2 i e q1 (le1 i e q2)⟩
  | .cell i q r Ty sz α enc :: l, S, M, nx, E, ρ, K, hE, hp, s, h, hk => by
    obtain ⟨M1, n1, ρ1, le1, h1, k1⟩ := cellX_ok (K := fun M nx => admsX l S M nx K) h hk
    obtain ⟨S2, M2, n2, E2, ρ2, o2, m2, s2, h2, k2, p2⟩ := admsX_ok hE (show keepA pk l = true from hp) (s.mono le1) h1 k1
    exact ⟨S2, M2, n2, E2, ρ2, o2, m2, s2, h2, k2, fun i e q1 q2 => p2 i e q1 (le1 i e q2)⟩
  | .up t :: l, S, M, nx, E, ρ, K, hE, hp, s, h, hk => by
    obtain ⟨S1, s1, k1⟩ := upX_ok (K := fun S => admsX l S M nx K) s hk
    exact admsX_ok hE (show keepA pk l = true from hp) s1 h k1
  | .upc i q r :: l, S, M, nx, E, ρ, K, hE, hp, s, h, hk => by
    obtain ⟨M1, h1, k1⟩ := upcX_ok (K := fun M => admsX l S M nx K) h hk
    exact admsX_ok hE (show keepA pk l = true from hp) s h1 k1
  | .upm i :: l, S, M, nx, E, ρ, K, hE, hp, s, h, hk => by
    obtain ⟨M1, h1, k1⟩ := upmX_ok (K := fun M => admsX l S M nx K) h hk
    exact admsX_ok hE (show keepA pk l = true from hp) s h1 k1
  | .fix t n :: l, S, M, nx, E, ρ, K, hE, hp, s, h, hk => by
    obtain ⟨S1, s1, k1⟩ := fixX_ok (K := fun S => admsX l S M nx K) s hk
    exact admsX_ok hE (show keepA pk l = true from hp) s1 h k1
  | .frz t :: l, S, M, nx, E, ρ, K, hE, hp, s, h, hk => by
    have hk' : (frz1 (getS t S) M fun v M => admsX l (.cons t v S) M nx K) = true := hk
    have hne : getS t S ≠ .bad := fun e => by rw [e] at hk'; cases hk'
    obtain ⟨x, q1, q2⟩ := (s.at_ t).resolve_left hne
    obtain ⟨E1, M1, u, e1, e2, e3, e4, k1⟩ := frz1_ok h q1 hk'
    have hE1 : EOk E1 := ⟨fun i => by rw [e2]; exact hE.1 i, Tied.mono e1.mem hE.2⟩
    have s1 : SR E1 ρ N (.cons t u S) a := ⟨s.size, s.defs, fun r => by
      by_cases q : t = r
      · subst q
        rw [getS_self]
        exact .inr ⟨x, den_mono (ρ := fun _ => none) (fun _ _ q => by cases q) u x e4, q2⟩
      · rw [getS_ne _ _ q]
        exact (s.at_ r).imp id fun ⟨y, y1, y2⟩ => ⟨y, den_env e1 _ _ y1, y2⟩⟩
    obtain ⟨S2, M2, n2, E2, ρ2, o2, m2, s2, h2, k2, p2⟩ := admsX_ok hE1 (show keepA pk l = true from hp) s1 e3 k1
    exact ⟨S2, M2, n2, E2, ρ2, o2, MLe.trans e1.mem m2, s2, h2, k2, p2⟩
  | .frzc i q r :: l, S, M, nx, E, ρ, K, hE, hp, s, h, hk => by
    obtain ⟨E1, M1, e1, e2, h1, k1⟩ := frzcX_ok (K := fun M => admsX l S M nx K) h hk
    have hE1 : EOk E1 := ⟨fun i => by rw [e2]; exact hE.1 i, Tied.mono e1.mem hE.2⟩
    have s1 : SR E1 ρ N S a := ⟨s.size, s.defs, fun r => (s.at_ r).imp id fun ⟨y, y1, y2⟩ => ⟨y, den_env e1 _ _ y1, y2⟩⟩
    obtain ⟨S2, M2, n2, E2, ρ2, o2, m2, s2, h2, k2, p2⟩ := admsX_ok hE1 (show keepA pk l = true from hp) s1 h1 k1
    exact ⟨S2, M2, n2, E2, ρ2, o2, MLe.trans e1.mem m2, s2, h2, k2, p2⟩
  | .fixo i q r n :: l, S, M, nx, E, ρ, K, hE, hp, s, h, hk => by
    obtain ⟨M1, h1, k1⟩ := fixoX_ok (K := fun M => admsX l S M nx K) h hk
    exact admsX_ok hE (show keepA pk l = true from hp) s h1 k1
  | .fixc i q r n :: l, S, M, nx, E, ρ, K, hE, hp, s, h, hk => by
    obtain ⟨M1, h1, k1⟩ := fixcX_ok (K := fun M => admsX l S M nx K) h hk
    exact admsX_ok hE (show keepA pk l = true from hp) s h1 k1
def LpOk (P : Program) (N pk : Nat) (lp : LpF) (b : Bool) (j : Nat) (x : XC) : Prop := ∀ (c : Code) (S : SL) (M : T) (nx : Nat) (E : Env) (ρ : Ren) (G : GS) (F : List Chunk) (a : Act) (w : World) (K : KC) (Q : Exit → Act → World → Prop), EOk E → chkC P N x c = true → SR E ρ N S a → Sim E ρ G F M nx w → lp j S M nx K = true →
  (∀ e S' M' nx' E' ρ' a' w', K e S' M' nx' = true → Rel false pk E ρ E' ρ' → SR E' ρ' N S' a' → Sim E' ρ' G F M' nx' w' → Q (exOf e) a' w') → (bif b then Code.loop c else c).wp P Q a w
theorem codeX_ok (hm : P.follows .mixedOrders = true) {cf : CallF} (hcf : CallOk P cf) {lp : LpF} {lf : Nat} {fl : Bool} {pk : Nat} : ∀ (xc : XC) (c : Code) {S : SL} {M : T} {nx : Nat} {E : Env} {ρ : Ren} {a : Act} {w : World} {K : KC} {Q : Exit → Act → World → Prop}, EOk E → (fl = true → plain xc = true) → keepB pk xc = true → (∀ b j x, (b, j, x) ∈ lpsOf xc → LpOk P N pk lp b j x) → chkC P N xc c = true → SR E ρ N S a → Sim E ρ G F M nx w → codeX cf lp lf xc S M nx K = true →
    (∀ e S' M' nx' E' ρ' a' w', K e S' M' nx' = true → Rel fl pk E ρ E' ρ' → SR E' ρ' N S' a' → Sim E' ρ' G F M' nx' w' → Q (exOf e) a' w') → c.wp P Q a w := by
  intro xc
  induction xc with
  | bad =>
    intro c S M nx E ρ a w K Q hE hfl hkp hlp hc s h hk hq
    cases hk
  | skip =>
    intro c S M nx E ρ a w K Q hE hfl hkp hlp hc s h hk hq
    cases c <;> simp only [chkC] at hc <;> first | (cases hc; done) | skip
    exact wp_skip (hq 0 _ _ _ _ _ _ _ hk (Ext.of hE (Ren.Le.refl _)).rel s h)
  | ret =>
    intro c S M nx E ρ a w K Q hE hfl hkp hlp hc s h hk hq
    cases c <;> simp only [chkC] at hc <;> first | (cases hc; done) | skip
    exact wp_ret (hq 1 _ _ _ _ _ _ _ hk (Ext.of hE (Ren.Le.refl _)).rel s h)
  | exit k =>
    intro c S M nx E ρ a w K Q hE hfl hkp hlp hc s h hk hq
    cases c <;> simp only [chkC] at hc <;> first | (cases hc; done) | skip
    have := Nat.eq_of_beq_eq_true hc
    subst this
    exact wp_exit (hq _ _ _ _ _ _ _ _ hk (Ext.of hE (Ren.Le.refl _)).rel s h)
  | reg draw n tr =>
    intro c S M nx E ρ a w K Q hE hfl hkp hlp hc s h hk hq
    cases c <;> simp only [chkC] at hc <;> first | (cases hc; done) | skip
    rename_i id ops d
    obtain ⟨hc, c3⟩ := and2 hc
    obtain ⟨c1, c2⟩ := and2 hc
    rw [decide_eq_true_eq] at c1
    subst c1
    cases draw with
    | true =>
      refine wp_region_tree hm n _ c3 ?_
      exact treeX_ok hE hcf s h.drawn (fun S' M' nx' E' ρ' a' w' k1 k2 k3 k4 => hq 0 _ _ _ _ _ _ _ k1 k2.rel k3 k4) c2 hk
    | false =>
      cases tr with
      | split x y t u => cases c3
      | leaf sts =>
        have hall : ∀ st ∈ sts, chkSt P ops N st = true := fun st hst => List.all_eq_true.1 c2 st hst
        obtain ⟨hc, c5⟩ := and2 c3
        obtain ⟨c3, c4⟩ := and2 hc
        rw [decide_eq_true_eq] at c5
        have c4 := Nat.eq_of_beq_eq_true c4
        refine wp_region ?_
        rw [c4, ← c5]
        exact wpL_ops c3 (regX_ok hcf hE hall s h hk fun S' M' nx' E' ρ' a' w' k1 k2 k3 k4 => hq 0 _ _ _ _ _ _ _ k1 k2.rel k3 k4)
  | seq x y ihx ihy =>
    intro c S M nx E ρ a w K Q hE hfl hkp hlp hc s h hk hq
    cases c <;> simp only [chkC] at hc <;> first | (cases hc; done) | skip
    obtain ⟨c1, c2⟩ := and2 hc
    refine wp_seq (ihx _ hE (fun q => (and2 (hfl q)).1) (and2 hkp).1 (fun b j x h => hlp b j x (List.mem_append.2 (.inl h))) c1 s h hk fun e S' M' nx' E' ρ' a' w' k1 k2 k3 k4 => ?_)
    match e, k1 with
    | 0, k1 => exact ihy _ k2.one (fun q => (and2 (hfl q)).2) (and2 hkp).2 (fun b j x h => hlp b j x (List.mem_append.2 (.inr h))) c2 k3 k4 k1 fun e S2 M2 nx2 E2 ρ2 a2 w2 j1 j2 => hq e _ _ _ _ _ _ _ j1 (k2.trans j2)
    | 1, k1 => exact hq 1 _ _ _ _ _ _ _ k1 k2 k3 k4
    | n + 2, k1 => exact hq (n + 2) _ _ _ _ _ _ _ k1 k2 k3 k4
  | cond p x y ihx ihy =>
    intro c S M nx E ρ a w K Q hE hfl hkp hlp hc s h hk hq
    cases c <;> simp only [chkC] at hc <;> first | (cases hc; done) | skip
    obtain ⟨hc, c3⟩ := and2 hc
    obtain ⟨c1, c2⟩ := and2 hc
    obtain ⟨b, S, h2, s, h4⟩ := condX_ok s c1 hk
    rcases ifB_ok h4 with ⟨rfl, h5⟩ | ⟨rfl, h5⟩
    · exact wp_cond_true h2 (ihx _ hE (fun q => (and2 (hfl q)).1) (and2 hkp).1 (fun b j x h => hlp b j x (List.mem_append.2 (.inl h))) c2 s h h5 hq)
    · exact wp_cond_false h2 (ihy _ hE (fun q => (and2 (hfl q)).2) (and2 hkp).2 (fun b j x h => hlp b j x (List.mem_append.2 (.inr h))) c3 s h h5 hq)
  | block k x ih =>
    intro c S M nx E ρ a w K Q hE hfl hkp hlp hc s h hk hq
    cases c <;> simp only [chkC] at hc <;> first | (cases hc; done) | skip
    rename_i i cc
    obtain ⟨c1, c2⟩ := and2 hc
    have c1 := Nat.eq_of_beq_eq_true c1
    subst c1
    refine wp_block (ih _ hE hfl hkp hlp c2 s h hk fun e S' M' nx' E' ρ' a' w' k1 k2 k3 k4 => ?_)
    rcases ifB_ok k1 with ⟨q, g1⟩ | ⟨q, g1⟩
    · have he := Nat.eq_of_beq_eq_true q
      have h0 := hq 0 _ _ _ _ _ _ _ g1 k2 k3 k4
      rw [he]
      simp only [exOf, Exit.inBlock, if_true]
      exact h0
    · have := hq e _ _ _ _ _ _ _ g1 k2 k3 k4
      match e, q, this with
      | 0, _, this => exact this
      | 1, _, this => exact this
      | n + 2, q, this =>
        have hne : ¬ n = i := fun e => by subst e; simp at q
        simp only [exOf, Exit.inBlock, if_neg hne]
        exact this
  | loop live x ih =>
    intro c S M nx E ρ a w K Q hE hfl hkp hlp hc s h hk hq
    cases c <;> simp only [chkC] at hc <;> first | (cases hc; done) | skip
    rename_i cc
    refine wp_loop_rounds lf ?_
    have key : ∀ (n : Nat) {S : SL} {M : T} {nx : Nat} {E : Env} {ρ : Ren} {a : Act} {w : World}, EOk E → SR E ρ N S a → Sim E ρ G F M nx w →
        (Nat.rec (motive := fun _ => SL → T → Nat → Bool) (fun _ _ _ => false) (fun _ again S M nx => packX S live .nil fun S => codeX cf lp lf x S M nx fun e S M nx => Nat.casesOn e (again S M nx) fun e' => K (Nat.succ e') S M nx) n S M nx) = true →
        (∀ e S' M' nx' E' ρ' a' w', K e S' M' nx' = true → Rel fl pk E ρ E' ρ' → SR E' ρ' N S' a' → Sim E' ρ' G F M' nx' w' → Q (exOf e) a' w') → Code.rounds P cc Q n a w := by
      intro n
      induction n with
      | zero => intro S M nx E ρ a w _ _ _ hk; cases hk
      | succ n ihn =>
        intro S M nx E ρ a w hE s h hk hq
        obtain ⟨S1, s1, hk1⟩ := packX_ok s (SR.nil s.size s.defs) hk
        refine ih _ hE hfl hkp hlp hc s1 h hk1 fun e S' M' nx' E' ρ' a' w' k1 k2 k3 k4 => ?_
        match e, k1 with
        | 0, k1 => exact ihn k2.one k3 k4 k1 fun e S2 M2 nx2 E2 ρ2 a2 w2 j1 j2 => hq e _ _ _ _ _ _ _ j1 (k2.trans j2)
        | 1, k1 => exact hq 1 _ _ _ _ _ _ _ k1 k2 k3 k4
        | m + 2, k1 => exact hq (m + 2) _ _ _ _ _ _ _ k1 k2 k3 k4
    exact key lf hE s h hk hq
  | inv j x ih =>
    intro c S M nx E ρ a w K Q hE hfl hkp hlp hc s h hk hq
    cases c <;> simp only [chkC] at hc <;> first | (cases hc; done) | skip
    cases fl with
    | true => exact absurd (hfl rfl) (by simp [plain])
    | false => exact hlp true j x (by simp [lpsOf]) _ S M nx E ρ G F a w K Q hE hc s h hk hq
  | aft x l ih =>
    intro c S M nx E ρ a w K Q hE hfl hkp hlp hc s h hk hq
    cases fl with
    | true => exact absurd (hfl rfl) (by simp [plain])
    | false =>
      have hc' : chkC P N x c = true := by
        cases c <;> exact hc
      refine ih c hE (fun q => by cases q) (and2 hkp).1 hlp hc' s h hk fun e S' M' nx' E' ρ' a' w' k1 k2 k3 k4 => ?_
      obtain ⟨S2, M2, n2, E2, ρ2, o2, m2, s2, h2, g2, p2⟩ := admsX_ok k2.one (keepL_sel (and2 hkp).2) k3 k4 k1
      exact hq e S2 M2 n2 E2 ρ2 a' w' g2 (k2.trans ⟨o2, m2, fun q => (by cases q), p2⟩) s2 h2
  | pre l x ih =>
    intro c S M nx E ρ a w K Q hE hfl hkp hlp hc s h hk hq
    cases fl with
    | true => exact absurd (hfl rfl) (by simp [plain])
    | false =>
      have hc' : chkC P N x c = true := by
        cases c <;> exact hc
      obtain ⟨S2, M2, n2, E2, ρ2, o2, m2, s2, h2, g2, p2⟩ := admsX_ok (K := fun S M nx => codeX cf lp lf x S M nx K) hE (and2 hkp).1 s h hk
      exact ih c o2 (fun q => by cases q) (and2 hkp).2 hlp hc' s2 h2 g2 fun e S' M' nx' E' ρ' a' w' k1 k2 k3 k4 => hq e S' M' nx' E' ρ' a' w' k1 (Rel.trans ⟨o2, m2, fun q => (by cases q), p2⟩ k2) k3 k4
  | spc j x ih =>
    intro c S M nx E ρ a w K Q hE hfl hkp hlp hc s h hk hq
    cases fl with
    | true => exact absurd (hfl rfl) (by simp [plain])
    | false =>
      have hc' : chkC P N x c = true := by
        cases c <;> exact hc
      exact hlp false j x (by simp [lpsOf]) c S M nx E ρ G F a w K Q hE hc' s h hk hq
end
inductive XRes | none | one (t : Nat) | two (t u : Nat) | cell (t : Nat) (agg : Bool) (n : Nat) | ct (t : Nat) (agg : Bool) (n u : Nat)
inductive XF : Type 1 | mk (N : Nat) (res : XRes) (body : XC)
noncomputable def resX (r : XRes) (S : SL) (M : T) (K : AV → Bool) : Bool := XRes.casesOn r (K (.tup [])) (fun t => nb (getS t S) K) (fun t u => nb (getS t S) fun x => nb (getS u S) fun y => K (.tup [x, y])) (fun t agg n => nb (getS t S) fun p => ldY agg n p M K) (fun t agg n u => nb (getS t S) fun p => ldY agg n p M fun v => nb (getS u S) fun y => K (.tup [v, y]))
noncomputable def argsX (vs : List AV) : Nat → SL → (SL → Bool) → Bool := List.rec (fun _ S K => K S) (fun v _ ih n S K => ih (Nat.succ n) (.cons n v S) K) vs
def chkRes (P : Program) (r : XRes) (rs : List ResultVar) : Bool := match r, rs with
  | .none, [] => true
  | .one t, [.tmp t'] => Nat.beq t t'
  | .two t u, [.tmp t', .tmp u'] => Nat.beq t t' && Nat.beq u u'
  | .cell t agg n, [.cell t' ty] => Nat.beq t t' && decide (isAg P ty = some agg) && decide (szOf P ty = some n)
  | .ct t agg n u, [.cell t' ty, .tmp u'] => Nat.beq t t' && decide (isAg P ty = some agg) && decide (szOf P ty = some n) && Nat.beq u u'
  | _, _ => false
def bodyOf : XF → XC
  | .mk _ _ b => b
def nOf : XF → Nat
  | .mk n _ _ => n
def chkF (P : Program) (f : Nat) (xf : XF) : Bool := match xf, P.funcs[f]? with
  | .mk N res body, some fn => (match fn.body with | some c => Nat.beq fn.ntmps N && chkRes P res fn.results.toList && chkC P N body c | none => false)
  | _, none => false
abbrev SpecE := List AV → T → Nat → (AV → T → Nat → Bool) → Bool
inductive ES : Type 1 | mk (k : Nat) (sp : SpecE)
noncomputable def fP (l : List (Nat × Nat)) : (List (Nat × Nat) → Bool) → Bool := List.rec (fun K => K []) (fun p _ ih K => fN p.1 fun a => fN p.2 fun b => ih fun l => K ((a, b) :: l)) l
theorem fP_eq : ∀ {l : List (Nat × Nat)} {K : List (Nat × Nat) → Bool}, fP l K = K l
  | [], K => rfl
  | p :: l, K => by
    have : fP (p :: l) K = (fN p.1 fun a => fN p.2 fun b => fP l fun l => K ((a, b) :: l)) := rfl
    rw [this, fN_eq, fN_eq, fP_eq]
def belowB (n : Nat) (ps : List (Nat × Nat)) : Bool := ps.all fun p => Nat.blt p.2 n
theorem belowB_ok {n : Nat} {ps : List (Nat × Nat)} (h : belowB n ps = true) : ∀ p ∈ ps, p.2 < n := fun p hp => by
  have := List.all_eq_true.1 h p hp
  simpa [Nat.blt_eq] using this
noncomputable def canV (k : Nat) (v : AV) (M : T) (K : AV → T → Nat → Bool) : Bool := fP (numd 0 (walkI M 200 (upTo k (idsA v)) [])) fun ps => must (pinsB ps k) (must (newsOk ps) (fN ps.length fun n => must (belowB n ps) (renM ps M ps .leaf fun M' => atO (renA ps v) fun v' => K v' M' n)))
noncomputable def delM (l : List (Nat × Nat)) : T → (T → Bool) → Bool := List.rec (fun M K => K M) (fun p _ ih M K => T.set fuelT M p.1 none fun M => ih M K) l
noncomputable def lkB (ps : List (Nat × Nat)) (j : Nat) : Nat := List.rec 0 (fun p _ ih => Bool.rec ih p.1 (Nat.beq p.2 j)) ps
noncomputable def outQ (k nx : Nat) (ps : List (Nat × Nat)) (l : List Nat) : List (Nat × Nat) := List.rec [] (fun j _ ih => (j, Bool.rec (Nat.add nx j) (lkB ps j) (Nat.blt j k)) :: ih) l
def outB (k nx n : Nat) (ps qs : List (Nat × Nat)) : Bool := qs.all fun q => Nat.blt q.1 n && ((Nat.blt q.1 k && ps.any fun p => Nat.beq p.1 q.2 && Nat.beq p.2 q.1) || (Nat.ble k q.1 && Nat.beq q.2 (nx + q.1)))
noncomputable def natGo (k : Nat) (sp : SpecE) (vs : List AV) (M : T) (nx : Nat) (K : AV → T → Nat → Bool) : Bool := fP (numd 0 (walkI M 200 (idsL vs) [])) fun ps => must (newsOk ps) (fN ps.length fun n => must (belowB n ps) (atO (renL ps vs) fun us => renM ps M ps .leaf fun Ml => sp us Ml n fun v M' n' =>
  fP (outQ k nx ps (walkI M' 200 (upTo k (idsA v)) [])) fun qs => must (newsOk qs) (must (outB k nx n' ps qs) (atO (renA qs v) fun v' => delM ps M fun M1 => renM qs M' qs M1 fun M2 => fN (nx + n') fun n2 => K v' M2 n2))))
noncomputable def callX (tab : Nat → Option XF) (nat : Nat → List AV → Option ES) (lp : LpF) (lf : Nat) : Nat → CallF := Nat.rec (fun f vs M nx K => Option.casesOn (nat f vs) false fun es => ES.casesOn es fun k sp => natGo k sp vs M nx K) (fun _ ih f vs M nx K => Option.casesOn (nat f vs) (atO (tab f) fun xf => XF.casesOn xf fun N res body =>
  must (Nat.ble (lenL vs) N) (argsX vs 0 .nil fun S => codeX ih lp lf body S M nx fun e S M nx => ifB (Nat.blt 1 e) false (resX res S M fun v => K v M nx))) fun es => ES.casesOn es fun k sp => natGo k sp vs M nx K)
noncomputable def funE (k : Nat) (cf : CallF) (lp : LpF) (lf : Nat) (xf : XF) (vs : List AV) (M : T) (nx : Nat) (K : AV → T → Nat → Bool) : Bool := XF.casesOn xf fun N res body => must (Nat.ble (lenL vs) N) (argsX vs 0 .nil fun S => codeX cf lp lf body S M nx fun e S M nx => ifB (Nat.blt 1 e) false (resX res S M fun v => canV k v M K))
section
variable {P : Program} {E : Env} {ρ : Ren} {G : GS} {F : List Chunk} {M : T} {nx : Nat} {w : World} {N : Nat} {S : SL} {a : Act} {ops : Array Oper} {o : Oper} {pk : Nat}
theorem argsX_ok : ∀ {vs : List AV} {xs : List Value} {n : Nat} {S : SL} {K : SL → Bool}, denL E ρ vs = some xs → (∀ i x, xs[i]? = some x → a.tmps.getD (n + i) undef = x) → SR E ρ N S a → argsX vs n S K = true → ∃ S', SR E ρ N S' a ∧ K S' = true
  | [], xs, n, S, K, _, _, s, h => ⟨S, s, h⟩
  | v :: vs, xs, n, S, K, hd, hx, s, h => by
    obtain ⟨y, ys, h1, h2, rfl⟩ := denL_cons hd
    have h' : argsX vs (Nat.succ n) (.cons n v S) K = true := h
    refine argsX_ok h2 (fun i x hi => ?_) ⟨s.size, s.defs, fun t => ?_⟩ h'
    · have := hx (i + 1) x (by simpa using hi)
      rw [show n + (i + 1) = Nat.succ n + i by omega] at this
      exact this
    · by_cases e : n = t
      · subst e
        rw [getS_self]
        exact .inr ⟨y, h1, hx 0 y rfl⟩
      · rw [getS_ne _ _ e]
        exact s.at_ t
theorem slot_ok (s : SR E ρ N S a) {t : Nat} {K : AV → Bool} (h : nb (getS t S) K = true) : ∃ x, den E ρ (getS t S) = some x ∧ a.tmps.getD t undef = x ∧ K (getS t S) = true := by
  obtain ⟨h1, h2⟩ := nb_ok h
  obtain ⟨x, h3, h4⟩ := (s.at_ t).resolve_left h1
  exact ⟨x, h3, h4, h2⟩
theorem resX_ok (s : SR E ρ N S a) (h : Sim E ρ G F M nx w) {fn : Func} {r : XRes} {K : AV → Bool} (hc : chkRes P r fn.results.toList = true) (hk : resX r S M K = true) : ∃ v z, den E ρ v = some z ∧ K v = true ∧ (results fn a.tmps).run P w = .ok z w := by
  unfold chkRes at hc
  split at hc
  · rename_i h1
    have hr := toL h1
    exact ⟨.tup [], .tuple #[], by simp [den, denL], hk, results_none hr _ _ _⟩
  · rename_i t t' h1
    have hr := toL h1
    have := Nat.eq_of_beq_eq_true hc
    subst this
    obtain ⟨x, g1, g2, g3⟩ := slot_ok s (show nb (getS t S) K = true from hk)
    exact ⟨_, x, g1, g3, by rw [results_tmp hr, g2]⟩
  · rename_i t u t' u' h1
    have hr := toL h1
    obtain ⟨c1, c2⟩ := and2 hc
    have c1 := Nat.eq_of_beq_eq_true c1
    have c2 := Nat.eq_of_beq_eq_true c2
    subst c1; subst c2
    obtain ⟨x, g1, g2, g3⟩ := slot_ok s (show nb (getS t S) (fun x => nb (getS u S) fun y => K (.tup [x, y])) = true from hk)
    obtain ⟨y, g4, g5, g6⟩ := slot_ok s (show nb (getS u S) (fun y => K (.tup [getS t S, y])) = true from g3)
    exact ⟨_, .tuple #[x, y], by simp only [den, denL, g1, g4], g6, by rw [results_tmp2 hr, g2, g5]⟩
  · rename_i t agg n t' ty h1
    have hr := toL h1
    obtain ⟨hc, c3⟩ := and2 hc
    obtain ⟨c1, c2⟩ := and2 hc
    rw [decide_eq_true_eq] at c2 c3
    have c1 := Nat.eq_of_beq_eq_true c1
    subst c1
    obtain ⟨x, g1, g2, g3⟩ := slot_ok s (show nb (getS t S) (fun p => ldY agg n p M K) = true from hk)
    have fin : ∀ {u : AV} {z : Value}, den E ρ u = some z → K u = true → (Instr.loadAt ty x).run P w = .ok z w → ∃ v z, den E ρ v = some z ∧ K v = true ∧ (results fn a.tmps).run P w = .ok z w := by
      intro u z d1 d2 d3
      refine ⟨u, z, d1, d2, ?_⟩
      have e1 : a.tmps[t]?.getD undef = x := by simpa using g2
      cases x with
      | pointer p =>
        cases p with
        | some ad =>
          simp only [Instr.loadAt, Instr.sureAddr, Sem.run_bind, Sem.run_pure, Result.andThen_ok] at d3
          simp [results, hr, e1, asAddr, d3]
        | none => simp [Instr.loadAt, Instr.sureAddr] at d3
      | _ => simp [Instr.loadAt, Instr.sureAddr] at d3
    obtain ⟨u, z, d1, d2, d3⟩ := ldY_ok (P := P) h g1 g3 c2 c3
    exact fin d1 d2 d3
  · rename_i t agg n v0 t' ty u' h1
    have hr := toL h1
    obtain ⟨hc, c4⟩ := and2 hc
    obtain ⟨hc, c3⟩ := and2 hc
    obtain ⟨c1, c2⟩ := and2 hc
    rw [decide_eq_true_eq] at c2 c3
    have c1 := Nat.eq_of_beq_eq_true c1
    subst c1
    have c4 := Nat.eq_of_beq_eq_true c4
    subst c4
    obtain ⟨x, g1, g2, g3⟩ := slot_ok s (show nb (getS t S) (fun p => ldY agg n p M fun v => nb (getS v0 S) fun y => K (.tup [v, y])) = true from hk)
    obtain ⟨u, z, d1, d2, d3⟩ := ldY_ok (P := P) h g1 g3 c2 c3
    obtain ⟨y, e1, e2, e3⟩ := slot_ok s d2
    refine ⟨_, .tuple #[z, y], by simp only [den, denL, d1, e1], e3, ?_⟩
    rw [results_cell_tmp hr, g2, e2]
    cases x with
    | pointer p =>
      cases p with
      | some ad =>
        simp only [Instr.loadAt, Instr.sureAddr, Sem.run_bind, Sem.run_pure, Result.andThen_ok] at d3
        simp [asAddr, d3]
      | none => simp [Instr.loadAt, Instr.sureAddr] at d3
    | _ => simp [Instr.loadAt, Instr.sureAddr] at d3
  · cases hc
theorem renM_all : ∀ {ps l : List (Nat × Nat)} {M acc : T} {K : T → Bool}, renM ps M l acc K = true → ∀ p ∈ l, ∃ o, M.get p.1 = some o
  | ps, [], M, acc, K, h, p, hp => by simp at hp
  | ps, q :: l, M, acc, K, h, p, hp => by
    have h' : (atO (M.get q.1) fun o => atO (renO ps o) fun o' => T.set fuelT acc q.2 (some o') fun acc => renM ps M l acc K) = true := h
    obtain ⟨o, h1, h2⟩ := atO_ok h'
    obtain ⟨o', h3, h4⟩ := atO_ok h2
    obtain ⟨acc', h5, s1, s2⟩ := T.set_ok _ _ _ _ _ h4
    rcases List.mem_cons.1 hp with rfl | hp
    · exact ⟨o, h1⟩
    · exact renM_all h5 p hp
theorem renM_over : ∀ {ps l : List (Nat × Nat)} {M M1 acc : T} {K : T → Bool}, (∀ j o, acc.get j = some o → (∃ i o0, (i, j) ∈ ps ∧ M.get i = some o0 ∧ renO ps o0 = some o) ∨ M1.get j = some o) → (∀ p ∈ l, p ∈ ps) → renM ps M l acc K = true →
    ∃ M', K M' = true ∧ ∀ j o, M'.get j = some o → (∃ i o0, (i, j) ∈ ps ∧ M.get i = some o0 ∧ renO ps o0 = some o) ∨ M1.get j = some o
  | ps, [], M, M1, acc, K, ha, _, h => ⟨acc, h, ha⟩
  | ps, p :: l, M, M1, acc, K, ha, hl, h => by
    have h' : (atO (M.get p.1) fun o => atO (renO ps o) fun o' => T.set fuelT acc p.2 (some o') fun acc => renM ps M l acc K) = true := h
    obtain ⟨o, h1, h2⟩ := atO_ok h'
    obtain ⟨o', h3, h4⟩ := atO_ok h2
    obtain ⟨acc', h5, s1, s2⟩ := T.set_ok _ _ _ _ _ h4
    refine renM_over (fun j ob hj => ?_) (fun q hq => hl q (by simp [hq])) h5
    by_cases e : j = p.2
    · subst e
      rw [s1] at hj
      cases hj
      exact .inl ⟨p.1, o, hl p (by simp), h1, h3⟩
    · rw [s2 j e] at hj
      exact ha j ob hj
theorem delM_ok : ∀ {l : List (Nat × Nat)} {M : T} {K : T → Bool}, delM l M K = true → ∃ M', K M' = true ∧ (∀ j o, M'.get j = some o → M.get j = some o ∧ ∀ p ∈ l, p.1 ≠ j)
  | [], M, K, h => ⟨M, h, fun j o hj => ⟨hj, fun p hp => by simp at hp⟩⟩
  | p :: l, M, K, h => by
    have h' : (T.set fuelT M p.1 none fun M => delM l M K) = true := h
    obtain ⟨M1, h1, s1, s2⟩ := T.set_ok _ _ _ _ _ h'
    obtain ⟨M2, h2, h3⟩ := delM_ok h1
    refine ⟨M2, h2, fun j o hj => ?_⟩
    obtain ⟨q1, q2⟩ := h3 j o hj
    have hne : p.1 ≠ j := fun e => by rw [← e, s1] at q1; cases q1
    refine ⟨by rw [← s2 j (fun e => hne e.symm)]; exact q1, fun r hr => ?_⟩
    rcases List.mem_cons.1 hr with rfl | hr
    · exact hne
    · exact q2 r hr
theorem outB_ok {k nx n : Nat} {ps qs : List (Nat × Nat)} (h : outB k nx n ps qs = true) : ∀ q ∈ qs, q.1 < n ∧ ((q.1 < k ∧ (q.2, q.1) ∈ ps) ∨ (k ≤ q.1 ∧ q.2 = nx + q.1)) := fun q hq => by
  have := List.all_eq_true.1 h q hq
  simp only [Bool.and_eq_true, Bool.or_eq_true, Nat.blt_eq, Nat.ble_eq] at this
  obtain ⟨h1, h2⟩ := this
  refine ⟨h1, ?_⟩
  rcases h2 with ⟨h2, h3⟩ | ⟨h2, h3⟩
  · obtain ⟨p, q1, q2⟩ := List.any_eq_true.1 h3
    simp only [Bool.and_eq_true] at q2
    have e1 := Nat.eq_of_beq_eq_true q2.1
    have e2 := Nat.eq_of_beq_eq_true q2.2
    have : p = (q.2, q.1) := by cases p; simp_all
    rw [this] at q1
    exact .inl ⟨h2, q1⟩
  · exact .inr ⟨h2, Nat.eq_of_beq_eq_true h3⟩
theorem canV_ok (h : Sim E ρ G F M nx w) {k : Nat} {v : AV} {x : Value} {K : AV → T → Nat → Bool} (hd : den E ρ v = some x) (hk : canV k v M K = true) :
    ∃ v' M' n' ρ', Sim E ρ' G F M' n' w ∧ den E ρ' v' = some x ∧ K v' M' n' = true ∧ ∀ i e, i < k → ρ i = some e → ρ' i = some e := by
  unfold canV at hk
  rw [fP_eq] at hk
  generalize numd 0 (walkI M 200 (upTo k (idsA v)) []) = ps at hk
  obtain ⟨h1, hk⟩ := must_ok hk
  obtain ⟨h2, hk⟩ := must_ok hk
  rw [fN_eq] at hk
  obtain ⟨h3, hk⟩ := must_ok hk
  obtain ⟨M', h4, h5⟩ := renM_ok (ps := ps) (fun j o hj => by simp [T.get_leaf] at hj) (fun p hp => hp) hk
  obtain ⟨v', h6, h7⟩ := atO_ok h4
  exact ⟨v', M', _, renR ps ρ, h.ren h2 (belowB_ok h3) h5, renA_den h2 _ _ _ h6 hd, h7, fun i e q1 q2 => by rw [renR_at h2 (pinsB_ok h1 i q1)]; exact q2⟩
def NatE (P : Program) (f k : Nat) (sp : SpecE) : Prop := ∀ (us : List AV) (xs : List Value) (E : Env) (ρ : Ren) (G : GS) (F : List Chunk) (M : T) (nx : Nat) (w : World) (K : AV → T → Nat → Bool) (R : Ending → World → Prop), EOk E → Sim E ρ G F M nx w → denL E ρ us = some xs → sp us M nx K = true →
  (∀ v M' nx' E' ρ' w' z, K v M' nx' = true → EOk E' → MLe E.M E'.M → (∀ i e, i < k → ρ i = some e → ρ' i = some e) → Sim E' ρ' G F M' nx' w' → den E' ρ' v = some z → R (.returned z) w') → Calls P f xs.toArray w R
theorem natGo_ok {f k : Nat} {sp : SpecE} (hn : NatE P f k sp) {vs : List AV} {xs : List Value} {K : AV → T → Nat → Bool} {R : Ending → World → Prop} (hE : EOk E) (h : Sim E ρ G F M nx w) (hd : denL E ρ vs = some xs) (hk : natGo k sp vs M nx K = true)
    (hr : ∀ v M' nx' E' ρ' w' z, K v M' nx' = true → Ext E ρ E' ρ' → Sim E' ρ' G F M' nx' w' → den E' ρ' v = some z → R (.returned z) w') : Calls P f xs.toArray w R := by
  classical
  unfold natGo at hk
  rw [fP_eq] at hk
  generalize numd 0 (walkI M 200 (idsL vs) []) = ps at hk
  obtain ⟨h1, hk⟩ := must_ok hk
  rw [fN_eq] at hk
  obtain ⟨h2, hk⟩ := must_ok hk
  have h2 := belowB_ok h2
  obtain ⟨us, h3, hk⟩ := atO_ok hk
  have hall := renM_all hk
  obtain ⟨Ml, hsp, hMl⟩ := renM_ok (ps := ps) (fun j o hj => by simp [T.get_leaf] at hj) (fun p hp => hp) hk
  obtain ⟨c, hh, hob, hinj⟩ := h.ex
  let B : Nat × Obj → Bool := fun q => decide (∃ p ∈ ps, ∃ e o, ρ p.1 = some e ∧ e.b = q.1 ∧ M.get p.1 = some o ∧ hasB e o = true)
  have hB : ∀ q : Nat × Obj, B q = true ↔ ∃ p ∈ ps, ∃ e o, ρ p.1 = some e ∧ e.b = q.1 ∧ M.get p.1 = some o ∧ hasB e o = true := fun q => by simp only [B, decide_eq_true_eq]
  have hh1 : Holds { G with M := E.M } w (c.filter B :: c.filter (fun q => !B q) :: F) := hh.perm (by
    simp only [List.flatten_cons, ← List.append_assoc]
    exact (List.filter_append_perm B c).append_right _)
  have hs : Sim E (renR ps ρ) G (c.filter (fun q => !B q) :: F) Ml ps.length w := by
    refine ⟨⟨c.filter B, hh1, fun j o hj => ?_, fun j k e f o o' hj hk he hf hb1 hb2 hb => ?_⟩, h.mem, fun j hj => ?_⟩
    · obtain ⟨i, o0, g1, g2, g3⟩ := hMl j o hj
      obtain ⟨e, a1, q⟩ := hob i o0 g2
      have hHB := renO_hasB (e := e) g3
      refine ⟨e, by rw [renR_at h1 g1]; exact a1, ?_⟩
      rcases q with ⟨q1, ob, q2, q3⟩ | ⟨q1, q2⟩
      · exact .inl ⟨by rw [hHB.1]; exact q1, ob, List.mem_filter.2 ⟨q2, (hB _).2 ⟨(i, j), g1, e, o0, a1, rfl, g2, q1⟩⟩, renO_rel h1 g3 q3⟩
      · exact .inr ⟨by rw [hHB.1]; exact q1, hHB.2 q2⟩
    · obtain ⟨i, o0, g1, g2, g3⟩ := hMl j o hj
      obtain ⟨i', o1, f1, f2, f3⟩ := hMl k o' hk
      rw [renR_at h1 g1] at he
      rw [renR_at h1 f1] at hf
      rw [(renO_hasB (e := e) g3).1] at hb1
      rw [(renO_hasB (e := f) f3).1] at hb2
      have := hinj i i' e f o0 o1 g2 f2 he hf hb1 hb2 hb
      subst this
      exact news_inj h1 g1 f1
    · unfold renR
      split
      · rename_i p hp
        have q1 := List.mem_of_find?_eq_some hp
        have q2 := List.find?_some hp
        have := Nat.eq_of_beq_eq_true q2
        have := h2 p q1
        omega
      · rfl
  refine hn us xs E (renR ps ρ) G _ Ml _ w _ R hE hs (renL_den h1 _ _ _ h3 hd) hsp fun v M' n' E' ρ' w' z kv hE' hm hpin hs' hz => ?_
  rw [fP_eq] at kv
  generalize outQ k nx ps (walkI M' 200 (upTo k (idsA v)) []) = qs at kv
  obtain ⟨g1, kv⟩ := must_ok kv
  obtain ⟨g2, kv⟩ := must_ok kv
  have g2 := outB_ok g2
  obtain ⟨v', g3, kv⟩ := atO_ok kv
  obtain ⟨M1, kv, hM1⟩ := delM_ok kv
  obtain ⟨M2, kv, hM2⟩ := renM_over (M1 := M1) (fun j o hj => .inr hj) (fun p hp => hp) kv
  rw [fN_eq] at kv
  obtain ⟨c', hh', hob', hinj'⟩ := hs'.ex
  let ρo : Ren := fun i => if i < nx then ρ i else ρ' (i - nx)
  have lt : ∀ i e, ρ i = some e → i < nx := fun i e q => by
    by_cases q1 : i < nx
    · exact q1
    · rw [h.fresh i (by omega)] at q; cases q
  have hle : ρ.Le ρo := fun i e q => by simp only [ρo, if_pos (lt i e q)]; exact q
  have hq : ∀ j i, (j, i) ∈ qs → ∀ e, ρ' j = some e → ρo i = some e := fun j i hji e he => by
    obtain ⟨q1, ⟨q2, q3⟩ | ⟨q2, q3⟩⟩ := g2 _ hji
    · obtain ⟨o, ho⟩ := hall _ q3
      obtain ⟨e0, a1, _⟩ := hob _ _ ho
      have := hpin j e0 q2 (by rw [renR_at h1 q3]; exact a1)
      rw [this] at he
      cases he
      exact hle _ _ a1
    · simp only at q2 q3
      have : ¬ i < nx := by omega
      simp only [ρo, if_neg this]
      rw [show i - nx = j by omega]; exact he
  have hrle : (renR qs ρ').Le ρo := fun i e q => by
    unfold renR at q
    split at q
    · rename_i p hp
      have q1 := List.mem_of_find?_eq_some hp
      have q2 := List.find?_some hp
      have q2 := Nat.eq_of_beq_eq_true q2
      subst q2
      exact hq p.1 p.2 q1 e q
    · cases q
  have hEE : EEq ρ E ⟨E.at_, E'.M⟩ := ⟨fun _ _ _ => rfl, hm⟩
  refine hr v' M2 (nx + n') ⟨E.at_, E'.M⟩ ρo w' z kv ⟨hEE, hle, hE.1, hE'.2⟩ ⟨⟨c' ++ c.filter (fun q => !B q), ?_, fun id o hid => ?_, fun i j e f o o' hi hj he hf hb1 hb2 hb => ?_⟩, hs'.mem, fun i hi => ?_⟩ (den_mono hrle _ _ (renA_den g1 _ _ _ g3 hz))
  · exact hh'.perm (by simp)
  · rcases hM2 id o hid with ⟨j, o0, p1, p2, p3⟩ | p1
    · obtain ⟨e, a1, q⟩ := hob' j o0 p2
      have hHB := renO_hasB (e := e) p3
      refine ⟨e, hq j id p1 e a1, ?_⟩
      rcases q with ⟨q1, ob, q2, q3⟩ | ⟨q1, q2⟩
      · exact .inl ⟨by rw [hHB.1]; exact q1, ob, List.mem_append.2 (.inl q2), (renO_rel (t2 := E.at_) g1 p3 q3).mono hrle⟩
      · exact .inr ⟨by rw [hHB.1]; exact q1, hHB.2 q2⟩
    · obtain ⟨q1, q2⟩ := hM1 id o p1
      obtain ⟨e, a1, q⟩ := hob id o q1
      refine ⟨e, hle _ _ a1, ?_⟩
      rcases q with ⟨r1, ob, r2, r3⟩ | r
      · refine .inl ⟨r1, ob, List.mem_append.2 (.inr (List.mem_filter.2 ⟨r2, ?_⟩)), (r3.env hEE).mono hle⟩
        have : ¬ B (e.b, ob) = true := fun hb => by
          obtain ⟨p, s1, e2, o2, s2, s3, s4, s5⟩ := (hB _).1 hb
          exact q2 p s1 (hinj p.1 id e2 e o2 o s4 q1 s2 a1 s5 r1 s3)
        simpa using this
      · exact .inr r
  · have nd := hh'.nodup
    simp only [List.flatten_cons, List.map_append] at nd
    have ap : ∀ b, b ∈ c'.map (·.1) → b ∈ (c.filter fun q => !B q).map (·.1) → False := fun b b1 b2 =>
      (List.nodup_append.1 nd).2.2 b b1 b (List.mem_append.2 (.inl b2)) rfl
    have blkN : ∀ id o e, (∃ j o0, (j, id) ∈ qs ∧ M'.get j = some o0 ∧ renO qs o0 = some o) → ρo id = some e → hasB e o = true → e.b ∈ c'.map (·.1) := by
      rintro id o e ⟨j, o0, p1, p2, p3⟩ he hb
      obtain ⟨e2, a1, q⟩ := hob' j o0 p2
      have := hq j id p1 e2 a1
      rw [this] at he; cases he
      rcases q with ⟨q1, ob, q2, q3⟩ | ⟨q1, q2⟩
      · exact List.mem_map.2 ⟨_, q2, rfl⟩
      · rw [(renO_hasB (e := e) p3).1, q1] at hb; cases hb
    have blkO : ∀ id o e, M1.get id = some o → ρo id = some e → hasB e o = true → e.b ∈ (c.filter fun q => !B q).map (·.1) := by
      intro id o e p1 he hb
      obtain ⟨q1, q2⟩ := hM1 id o p1
      obtain ⟨e2, a1, q⟩ := hob id o q1
      rw [hle _ _ a1] at he; cases he
      rcases q with ⟨r1, ob, r2, r3⟩ | ⟨r1, r2⟩
      · refine List.mem_map.2 ⟨_, List.mem_filter.2 ⟨r2, ?_⟩, rfl⟩
        have : ¬ B (e.b, ob) = true := fun hb => by
          obtain ⟨p, s1, e3, o2, s2, s3, s4, s5⟩ := (hB _).1 hb
          exact q2 p s1 (hinj p.1 id e3 e o2 o s4 q1 s2 a1 s5 r1 s3)
        simpa using this
      · rw [r1] at hb; cases hb
    rcases hM2 i o hi with m1 | m1 <;> rcases hM2 j o' hj with m2 | m2
    · obtain ⟨j1, o1, p1, p2, p3⟩ := m1
      obtain ⟨j2, o2, r1, r2, r3⟩ := m2
      obtain ⟨e1, a1, _⟩ := hob' j1 o1 p2
      obtain ⟨e2, a2, _⟩ := hob' j2 o2 r2
      have x1 := hq _ _ p1 _ a1
      have x2 := hq _ _ r1 _ a2
      rw [x1] at he; cases he
      rw [x2] at hf; cases hf
      rw [(renO_hasB (e := e) p3).1] at hb1
      rw [(renO_hasB (e := f) r3).1] at hb2
      have := hinj' j1 j2 e f o1 o2 p2 r2 a1 a2 hb1 hb2 hb
      subst this
      exact news_inj g1 p1 r1
    · exact (ap _ (blkN i o e m1 he hb1) (by rw [hb]; exact blkO j o' f m2 hf hb2)).elim
    · exact (ap _ (blkN j o' f m2 hf hb2) (by rw [← hb]; exact blkO i o e m1 he hb1)).elim
    · obtain ⟨q1, _⟩ := hM1 i o m1
      obtain ⟨q2, _⟩ := hM1 j o' m2
      obtain ⟨e1, a1, _⟩ := hob i o q1
      obtain ⟨e2, a2, _⟩ := hob j o' q2
      rw [hle _ _ a1] at he; cases he
      rw [hle _ _ a2] at hf; cases hf
      exact hinj i j e f o o' q1 q2 a1 a2 hb1 hb2 hb
  · have : ¬ i < nx := by omega
    simp only [ρo, if_neg this]
    exact hs'.fresh _ (by omega)
theorem run_fun (hm : P.follows .mixedOrders = true) {cf : CallF} (hcf : CallOk P cf) {lp : LpF} {lf : Nat} {fl : Bool} {pk : Nat} {f N : Nat} {res : XRes} {body : XC} (hf : chkF P f (.mk N res body) = true) (hfl : fl = true → plain body = true) (hkp : keepB pk body = true) (hlp : ∀ b j x, (b, j, x) ∈ lpsOf body → LpOk P N pk lp b j x)
    {vs : List AV} {xs : List Value} (hE : EOk E) (h : Sim E ρ G F M nx w) (hd : denL E ρ vs = some xs) {K : AV → T → Nat → Bool} {R : Ending → World → Prop}
    (h2 : must (Nat.ble (lenL vs) N) (argsX vs 0 .nil fun S => codeX cf lp lf body S M nx fun e S M nx => ifB (Nat.blt 1 e) false (resX res S M fun v => K v M nx)) = true)
    (hr : ∀ v M' nx' E' ρ' w' z, K v M' nx' = true → Rel fl pk E ρ E' ρ' → Sim E' ρ' G F M' nx' w' → den E' ρ' v = some z → R (.returned z) w') : Calls P f xs.toArray w R := by
  unfold chkF at hf
  split at hf
  case h_2 => cases hf
  rename_i N' res' body' fn hx hfn
  cases hx
  split at hf
  case h_2 => cases hf
  rename_i c hb
  obtain ⟨hf, c3⟩ := and2 hf
  obtain ⟨c1, c2⟩ := and2 hf
  have c1 := Nat.eq_of_beq_eq_true c1
  obtain ⟨h3, h4⟩ := must_ok h2
  rw [Nat.ble_eq, lenL_eq] at h3
  have hlen := denL_len hd
  refine calls_of_wp hfn hb ?_
  have hsz : (xs.toArray ++ Array.replicate (fn.ntmps - xs.toArray.size) undef).size = N := by simp; omega
  obtain ⟨S, s, h5⟩ := argsX_ok (a := { tmps := xs.toArray ++ Array.replicate (fn.ntmps - xs.toArray.size) undef, defers := [] }) (N := N) hd (fun i x hi => by
    have hlt := (List.getElem?_eq_some_iff.1 hi).1
    have hv := (List.getElem?_eq_some_iff.1 hi).2
    simp only [Nat.zero_add, Array.getD, hsz]
    rw [dif_pos (by omega)]
    simp [Array.getElem_append, hlt, hv]) (SR.nil hsz rfl) h4
  refine codeX_ok hm hcf body c hE hfl hkp hlp c3 s h h5 fun e S' M' nx' E' ρ' a' w' k1 k2 k3 k4 => ?_
  rcases ifB_ok k1 with ⟨_, g1⟩ | ⟨q, g1⟩
  · cases g1
  · obtain ⟨v, z, r1, r2, r3⟩ := resX_ok k3 k4 c2 g1
    have hR := hr v M' nx' E' ρ' w' z r2 k2 k4 r1
    match e, q with
    | 0, _ => exact ⟨k3.defs, z, r3, hR⟩
    | 1, _ => exact ⟨k3.defs, z, r3, hR⟩
    | n + 2, q =>
      have : Nat.blt 1 (n + 2) = true := by rw [Nat.blt_eq]; omega
      rw [this] at q; cases q
theorem callX_ok (hm : P.follows .mixedOrders = true) {tab : Nat → Option XF} {nat : Nat → List AV → Option ES} {lp : LpF} {lf : Nat} (htab : ∀ f xf, tab f = some xf → chkF P f xf = true ∧ plain (bodyOf xf) = true) (hnat : ∀ f vs k sp, nat f vs = some (.mk k sp) → NatE P f k sp) : ∀ d, CallOk P (callX tab nat lp lf d)
  | 0 => by
    intro f vs M nx K E ρ G F w xs R hE h hd hk hr
    have hk' : (Option.casesOn (nat f vs) false fun es => ES.casesOn es fun k sp => natGo k sp vs M nx K : Bool) = true := hk
    rcases e : nat f vs with _ | ⟨k, sp⟩
    · rw [e] at hk'; cases hk'
    · rw [e] at hk'
      exact natGo_ok (hnat f vs k sp e) hE h hd hk' hr
  | d + 1 => by
    intro f vs M nx K E ρ G F w xs R hE h hd hk hr
    have hk' : (Option.casesOn (nat f vs) (atO (tab f) fun xf => XF.casesOn xf fun N res body =>
      must (Nat.ble (lenL vs) N) (argsX vs 0 .nil fun S => codeX (callX tab nat lp lf d) lp lf body S M nx fun e S M nx => ifB (Nat.blt 1 e) false (resX res S M fun v => K v M nx))) fun es => ES.casesOn es fun k sp => natGo k sp vs M nx K : Bool) = true := hk
    rcases e : nat f vs with _ | ⟨k, sp⟩
    · rw [e] at hk'
      obtain ⟨xf, h1, h2⟩ := atO_ok hk'
      obtain ⟨hf, hp⟩ := htab f xf h1
      obtain ⟨N, res, body⟩ := xf
      have hno : ∀ {x : XC}, plain x = true → lpsOf x = [] := by
        intro x
        induction x with
        | seq x y ihx ihy => intro q; obtain ⟨q1, q2⟩ := and2 (show (plain x && plain y) = true from q); simp [lpsOf, ihx q1, ihy q2]
        | cond p x y ihx ihy => intro q; obtain ⟨q1, q2⟩ := and2 (show (plain x && plain y) = true from q); simp [lpsOf, ihx q1, ihy q2]
        | block k x ih => exact fun q => ih q
        | loop l x ih => exact fun q => ih q
        | inv => intro q; cases q
        | aft => intro q; cases q
        | pre => intro q; cases q
        | spc => intro q; cases q
        | _ => intro _; rfl
      have hk0 : ∀ {x : XC}, plain x = true → keepB 0 x = true := by
        intro x
        induction x with
        | seq x y ihx ihy => intro q; obtain ⟨q1, q2⟩ := and2 (show (plain x && plain y) = true from q); simp [keepB, ihx q1, ihy q2]
        | cond p x y ihx ihy => intro q; obtain ⟨q1, q2⟩ := and2 (show (plain x && plain y) = true from q); simp [keepB, ihx q1, ihy q2]
        | block k x ih => exact fun q => ih q
        | loop l x ih => exact fun q => ih q
        | inv => intro q; cases q
        | aft => intro q; cases q
        | pre => intro q; cases q
        | spc => intro q; cases q
        | _ => intro _; rfl
      exact run_fun (fl := true) (pk := 0) hm (callX_ok hm htab hnat d) hf (fun _ => hp) (hk0 hp) (fun b j x q => by rw [hno (x := body) hp] at q; cases q) hE h hd h2 fun v M' nx' E' ρ' w' z q1 q2 => hr v M' nx' E' ρ' w' z q1 (q2.ext rfl)
    · rw [e] at hk'
      exact natGo_ok (hnat f vs k sp e) hE h hd hk' hr
theorem natE_of (hm : P.follows .mixedOrders = true) {cf : CallF} (hcf : CallOk P cf) {lp : LpF} {lf f k : Nat} {xf : XF} {sp : SpecE} (hf : chkF P f xf = true) (hkp : keepB k (bodyOf xf) = true) (hlp : ∀ b j x, (b, j, x) ∈ lpsOf (bodyOf xf) → LpOk P (nOf xf) k lp b j x) (hrun : ∀ us M nx K, sp us M nx K = true → funE k cf lp lf xf us M nx K = true) : NatE P f k sp := by
  intro us xs E ρ G F M nx w K R hE hs hd hk hr
  obtain ⟨N, res, body⟩ := xf
  refine run_fun (fl := false) (pk := k) (K := fun v M _ => canV k v M K) (G := G) hm hcf hf (fun q => by cases q) hkp hlp hE hs hd (hrun us M nx K hk) fun v M' nx' E' ρ' w' z q1 q2 q3 q4 => ?_
  obtain ⟨v2, M2, n2, ρ2, f1, f2, f3, f4⟩ := canV_ok q3 q4 q1
  exact hr v2 M2 n2 E' ρ2 w' z f3 q2.one q2.mem (fun i e i1 i2 => f4 i e i1 (q2.pin i e i1 i2)) f1 f2
theorem lp_of (hm : P.follows .mixedOrders = true) {cf : CallF} (hcf : CallOk P cf) {lp : LpF} {lf j : Nat} {x : XC} (hkp : keepB pk x = true) {α : Type _} (I : α → SL × T × Nat) (μ : α → Nat) (spec : α → KC → Bool) (hlp : ∀ b j' x', (b, j', x') ∈ lpsOf x → LpOk P N pk lp b j' x')
    (hj : ∀ S M nx K, lp j S M nx K = true → ∃ p, (S, M, nx) = I p ∧ spec p K = true)
    (hbody : ∀ p K, spec p K = true → codeX cf lp lf x (I p).1 (I p).2.1 (I p).2.2 (fun e S M nx => Nat.casesOn e (exB fun p' => must (prB ((S, M, nx) = I p' ∧ μ p' < μ p)) (spec p' K)) (fun e' => K (Nat.succ e') S M nx)) = true) : LpOk P N pk lp true j x := by
  intro c S M nx E ρ G F a w K Q hE hc s h hk hq
  obtain ⟨p, hp, hs⟩ := hj S M nx K hk
  have key : ∀ (n : Nat) (p : α), μ p < n → ∀ {S : SL} {M : T} {nx : Nat} {E : Env} {ρ : Ren} {a : Act} {w : World}, (S, M, nx) = I p → spec p K = true → EOk E → SR E ρ N S a → Sim E ρ G F M nx w →
      (∀ e S' M' nx' E' ρ' a' w', K e S' M' nx' = true → Rel false pk E ρ E' ρ' → SR E' ρ' N S' a' → Sim E' ρ' G F M' nx' w' → Q (exOf e) a' w') → Code.rounds P c Q n a w := by
    intro n
    induction n with
    | zero => intro p hn; omega
    | succ n ih =>
      intro p hn S M nx E ρ a w hI hs hE s h hq
      have hb := hbody p K hs
      rw [← hI] at hb
      refine codeX_ok (fl := false) hm hcf x c hE (fun q => by cases q) hkp hlp hc s h hb fun e S' M' nx' E' ρ' a' w' k1 k2 k3 k4 => ?_
      match e, k1 with
      | 0, k1 =>
        obtain ⟨p', k5⟩ := exB_ok k1
        obtain ⟨⟨k6, k7⟩, k8⟩ := mustP_ok k5
        exact ih p' (by omega) k6 k8 k2.one k3 k4 fun e S2 M2 nx2 E2 ρ2 a2 w2 j1 j2 => hq e _ _ _ _ _ _ _ j1 (k2.trans j2)
      | 1, k1 => exact hq 1 _ _ _ _ _ _ _ k1 k2 k3 k4
      | m + 2, k1 => exact hq (m + 2) _ _ _ _ _ _ _ k1 k2 k3 k4
  exact wp_loop_rounds (μ p + 1) (key (μ p + 1) p (Nat.lt_succ_self _) hp hs hE s h hq)
end
noncomputable def shp (v : AV) : Nat := AV.casesOn v 0 (fun _ _ => 1) (fun _ => 2) (fun _ => 3) (fun _ _ => 4) (fun _ _ _ _ => 5) (fun _ => 6) 7 8 9 10 11 (fun _ _ => 12) (fun _ _ => 13) (fun _ => 14) (fun _ => 15) (fun _ => 16) (fun _ => 17) (fun s => SY.casesOn s (fun _ _ => 20) (fun _ => 21) (fun _ => 22) (fun _ _ _ _ _ => 23) (fun _ _ _ => 24) (fun _ _ => 25) (fun _ _ _ _ => 26) (fun _ _ _ _ => 27) (fun _ _ _ => 28))
noncomputable def shpN (vs : List AV) (n : Nat) : Nat := Option.casesOn (nth vs n) 0 shp
noncomputable def hasL (vs : List AV) (l : List (Nat × Nat)) : Bool := List.rec true (fun p _ ih => Bool.rec false ih (Nat.beq (shpN vs p.1) p.2)) l
noncomputable def hasS (f g : Nat) (vs : List AV) (l : List (Nat × Nat)) : Bool := Bool.rec false (hasL vs l) (Nat.beq f g)
theorem nat_step {P : Program} {f g k k0 : Nat} {vs : List AV} {sp sp0 : SpecE} {rest : Option ES} {l : List (Nat × Nat)} (h0 : NatE P g k0 sp0) (hr : rest = some (.mk k sp) → NatE P f k sp) (h : (Bool.rec rest (some (ES.mk k0 sp0)) (hasS f g vs l) : Option ES) = some (.mk k sp)) : NatE P f k sp := by
  cases hb : hasS f g vs l with
  | false => rw [hb] at h; exact hr h
  | true =>
    rw [hb] at h
    cases h
    unfold hasS at hb
    cases he : Nat.beq f g with
    | false => rw [he] at hb; cases hb
    | true => rw [Nat.eq_of_beq_eq_true he]; exact h0
theorem mem_step {P : Program} {N k : Nat} {lp : LpF} {b b0 : Bool} {j j0 : Nat} {x x0 : XC} {l : List (Bool × Nat × XC)} (h0 : LpOk P N k lp b0 j0 x0) (hr : (b, j, x) ∈ l → LpOk P N k lp b j x) (h : (b, j, x) ∈ (b0, j0, x0) :: l) : LpOk P N k lp b j x := by
  rcases List.mem_cons.1 h with e | h
  · injection e with e1 e2
    injection e2 with e3 e4
    subst e1; subst e3; subst e4
    exact h0
  · exact hr h
theorem ifB_use {p : Prop} {x y : Bool} (hp : p) (h : ifB (prB p) x y = true) : x = true := by
  rcases ifP_ok h with ⟨_, h⟩ | ⟨q, _⟩
  · exact h
  · exact absurd hp q
def encU (x : UInt8) : List PL := [.sint 1 (x.toNat : Int)]
def encT (s : List UInt8) : List PL := [.sstr s]
def BuildD (T b : Nat) (l : List UInt8) (c : Chunk) : Prop := ∃ p ao cap cr, (p = .pointer none ∨ p = .pointer (some ⟨b, 0, none⟩)) ∧ Row 5 1 ao l.length cap (l.map u8) cr ∧ c = (b, .cells #[p, .slice ao l.length cap] T (0, 0)) :: cr
def BuildS (T b : Nat) (l : List UInt8) (c : Chunk) : Prop := ∃ p ao cap cr, p = .pointer (some ⟨b, 0, none⟩) ∧ Row 5 1 ao l.length cap (l.map u8) cr ∧ c = (b, .cells #[p, .slice ao l.length cap] T (0, 0)) :: cr
theorem BuildS.d {T b : Nat} {l : List UInt8} {c : Chunk} : BuildS T b l c → BuildD T b l c := fun ⟨p, ao, cap, cr, h1, h2⟩ => ⟨p, ao, cap, cr, .inr h1, h2⟩
end Go.Sy
namespace Go.Eng
open Go Go.RowKit
section
variable {G : GS} {w : World} {F : List Chunk} {c : Chunk}
theorem Holds.pick1 {x : Nat × Obj} (h : Holds G w (c :: F)) (hm : x ∈ c) : Holds G w ([x] :: F) := by
  obtain ⟨s, t, rfl⟩ := List.append_of_mem hm
  have h2 : Holds G w ((s ++ t) :: [x] :: F) := h.perm (by
    simp only [List.flatten_cons]
    have p1 : (s ++ x :: t).Perm (x :: (s ++ t)) := List.perm_middle
    exact (List.perm_append_comm_assoc (s ++ t) [x] F.flatten).trans (p1.append_right F.flatten).symm)
  exact h2.drop
theorem Holds.pick2 {x y : Nat × Obj} (h : Holds G w (c :: F)) (hx : x ∈ c) (hy : y ∈ c) (hne : x.1 ≠ y.1) : Holds G w ((x :: [y]) :: F) := by
  obtain ⟨s, t, rfl⟩ := List.append_of_mem hx
  have hy2 : y ∈ s ++ t := by
    rcases List.mem_append.1 hy with q | q
    · exact List.mem_append.2 (.inl q)
    · rcases List.mem_cons.1 q with rfl | q
      · exact absurd rfl hne
      · exact List.mem_append.2 (.inr q)
  obtain ⟨s2, t2, e⟩ := List.append_of_mem hy2
  have h2 : Holds G w ((s2 ++ t2) :: (x :: [y]) :: F) := h.perm (by
    simp only [List.flatten_cons]
    have p1 : (s ++ x :: t).Perm (x :: (s ++ t)) := List.perm_middle
    rw [e] at p1
    have p2 : (s2 ++ y :: t2).Perm (y :: (s2 ++ t2)) := List.perm_middle
    have p3 : (s ++ x :: t).Perm ((x :: [y]) ++ (s2 ++ t2)) := p1.trans (p2.cons x)
    have p4 : ((s ++ x :: t) ++ F.flatten).Perm (((x :: [y]) ++ (s2 ++ t2)) ++ F.flatten) := p3.append_right _
    exact (List.perm_append_comm_assoc (s2 ++ t2) (x :: [y]) F.flatten).trans p4.symm)
  exact h2.drop
end
end Go.Eng
namespace Go.Sy
open Go Go.RowKit Go.Eng
section
variable {P : Program} {E : Env} {ρ : Ren} {G : GS} {F : List Chunk} {M : T} {nx : Nat} {w : World}
theorem Holds.withM {G G' : GS} {m : Mem} (hG : GS.Le { G with M := m } G') {H : List Chunk} (hh : Holds G' w H) : Holds { G with M := G'.M } w H := ⟨hh.os.trans hG.os, hh.tape.trans hG.tape, hh.output.trans hG.output, hh.mem, hh.own, hh.nodup, hh.apart⟩
theorem Sim.bare {G' : GS} {w' : World} (hs : Sim E ρ G F M nx w) (hG : GS.Le { G with M := E.M } G') (hh : Holds G' w' F) : Sim ⟨E.at_, G'.M⟩ (fun _ => none) G F .leaf 0 w' :=
  ⟨⟨[], (Holds.withM hG hh).nil, fun i o h => by simp [T.get_leaf] at h, fun i j e f o o' h => by simp [T.get_leaf] at h⟩, MLe.trans hs.mem (fun b o h => hG.mem b o h), fun _ _ => rfl⟩
abbrev ContE (k : Nat) (E : Env) (ρ : Ren) (G : GS) (F : List Chunk) (K : AV → T → Nat → Bool) (R : Ending → World → Prop) : Prop :=
  ∀ v M' nx' E' ρ' w' z, K v M' nx' = true → EOk E' → MLe E.M E'.M → (∀ i e, i < k → ρ i = some e → ρ' i = some e) → Sim E' ρ' G F M' nx' w' → den E' ρ' v = some z → R (.returned z) w'
theorem doneR {f : Nat} {xs : Array Value} {s : List UInt8} {K : AV → T → Nat → Bool} {R : Ending → World → Prop} (hE : EOk E) (hs : Sim E ρ G F M nx w) (hc : Calls P f xs w (Ret { G with M := E.M } F fun _ v => v = S s)) (hk : K (.sy (.str s)) .leaf 0 = true) (hr : ContE 0 E ρ G F K R) : Calls P f xs w R := by
  refine hc.mono fun e w' ⟨v, G', he, hG, hh, hv⟩ => ?_
  subst he; subst hv
  exact hr _ _ _ ⟨E.at_, G'.M⟩ (fun _ => none) w' _ hk ⟨hE.1, Tied.mono (fun b o h => hG.mem b o h) hE.2⟩ (fun b o h => hG.mem b o h) (fun i e h => absurd h (Nat.not_lt_zero i)) (hs.bare hG hh) rfl
theorem doneB {f : Nat} {xs : Array Value} {s : List UInt8} {K : AV → T → Nat → Bool} {R : Ending → World → Prop} (hE : EOk E) (hs : Sim E ρ G F M nx w) (hc : Calls P f xs w fun e w' => e = .returned (S s) ∧ Below w.heap.size w w') (hk : K (.sy (.str s)) .leaf 0 = true) (hr : ContE 0 E ρ G F K R) : Calls P f xs w R := by
  obtain ⟨c, hh, _, _⟩ := hs.ex
  exact doneR hE hs (hc.mono fun e w' ⟨he, hb⟩ => ⟨_, _, he, GS.Le.refl _, hh.drop.ext hb, rfl⟩) hk hr
noncomputable def zA (k : Nat) (v : AV) (K : Int → Bool) : Bool := match v with
  | .int j z => must (Nat.beq j k) (K z)
  | .sy (.int j z) => must (Nat.beq j k) (K z)
  | _ => false
theorem zA_ok {k : Nat} {v : AV} {K : Int → Bool} (h : zA k v K = true) : ∃ z, (∀ x, den E ρ v = some x → x = .int (kOf k) z) ∧ K z = true := by
  unfold zA at h
  split at h
  · obtain ⟨h1, h2⟩ := must_ok h
    have := Nat.eq_of_beq_eq_true h1
    subst this
    exact ⟨_, fun x hx => by simpa [den] using hx.symm, h2⟩
  · obtain ⟨h1, h2⟩ := must_ok h
    have := Nat.eq_of_beq_eq_true h1
    subst this
    exact ⟨_, fun x hx => by simpa [den, denS] using hx.symm, h2⟩
  · cases h
noncomputable def spN1 (k : Nat) (g : Int → List UInt8) : SpecE := fun us _ _ K => match us with
  | [v] => zA k v fun z => must (prB (InR k z)) (K (.sy (.str (g z))) .leaf 0)
  | _ => false
noncomputable def spN2 (k b : Nat) (g : Int → List UInt8) : SpecE := fun us _ _ K => match us with
  | [v, .int 0 (.ofNat n)] => must (Nat.beq n b) (zA k v fun z => must (prB (InR k z)) (K (.sy (.str (g z))) .leaf 0))
  | _ => false
theorem natE_N1 {f k : Nat} {g : Int → List UInt8} (hI : ∀ (z : Int) (G : GS) (w : World) (F : List Chunk), InR k z → Tied G.M → Holds G w F → Calls P f #[.int (kOf k) z] w (Ret G F fun _ v => v = S (g z))) : NatE P f 0 (spN1 k g) := by
  intro us xs E ρ G F M nx w K R hE hs hd hk hr
  unfold spN1 at hk
  split at hk
  case h_2 => cases hk
  rename_i v
  obtain ⟨x, ys, h1, h2, rfl⟩ := denL_cons hd
  obtain rfl : ys = [] := by simpa [denL] using h2.symm
  obtain ⟨z, hz, hk⟩ := zA_ok (E := E) (ρ := ρ) hk
  obtain ⟨hi, hk⟩ := mustP_ok hk
  obtain rfl := hz x h1
  obtain ⟨c, hh, _, _⟩ := hs.ex
  exact doneR hE hs (hI z { G with M := E.M } w F hi hE.2 hh.drop) hk hr
theorem natE_N2 {f k b : Nat} {g : Int → List UInt8} (hI : ∀ (z : Int) (G : GS) (w : World) (F : List Chunk), InR k z → Tied G.M → Holds G w F → Calls P f #[.int (kOf k) z, .int .i64 (b : Int)] w (Ret G F fun _ v => v = S (g z))) : NatE P f 0 (spN2 k b g) := by
  intro us xs E ρ G F M nx w K R hE hs hd hk hr
  unfold spN2 at hk
  split at hk
  case h_2 => cases hk
  rename_i v n
  obtain ⟨hb, hk1⟩ := must_ok hk
  have hb := Nat.eq_of_beq_eq_true hb
  subst hb
  obtain ⟨x, ys, h1, h2, rfl⟩ := denL_cons hd
  obtain ⟨x2, ys2, h3, h4, rfl⟩ := denL_cons h2
  obtain rfl : ys2 = [] := by simpa [denL] using h4.symm
  obtain rfl : x2 = .int .i64 (n : Int) := by simpa [den, kOf] using h3.symm
  obtain ⟨z, hz, hk2⟩ := zA_ok (E := E) (ρ := ρ) hk1
  obtain ⟨hi, hk⟩ := mustP_ok hk2
  obtain rfl := hz x h1
  obtain ⟨c, hh, _, _⟩ := hs.ex
  exact doneR hE hs (hI z { G with M := E.M } w F hi hE.2 hh.drop) hk hr
noncomputable def decF (fuel : Nat) : Nat → List Nat → List Nat := Nat.rec (fun _ acc => acc) (fun _ ih n acc => Bool.rec (ih (Nat.div n 10) (Nat.add 48 (Nat.mod n 10) :: acc)) (Nat.add 48 n :: acc) (Nat.blt n 10)) fuel
theorem decF_ok : ∀ (fuel n : Nat) (acc : List Nat), n < 10 ^ fuel → 0 < fuel → (decF fuel n acc).map UInt8.ofNat = Lib.decDigits n ++ acc.map UInt8.ofNat
  | 0, n, acc, h, h0 => by omega
  | fuel + 1, n, acc, h, _ => by
    have e : decF (fuel + 1) n acc = Bool.rec (decF fuel (n / 10) ((48 + n % 10) :: acc)) ((48 + n) :: acc) (Nat.blt n 10) := rfl
    cases hb : Nat.blt n 10 with
    | true =>
      have h9 := hb
      rw [Nat.blt_eq] at h9
      rw [e, hb, Lib.decDigits_one h9]
      rfl
    | false =>
      have hn : ¬ n < 10 := fun q => by rw [← Nat.blt_eq] at q; rw [q] at hb; cases hb
      rw [e, hb]
      show (decF fuel (n / 10) ((48 + n % 10) :: acc)).map UInt8.ofNat = _
      rcases Nat.eq_zero_or_pos fuel with rfl | hf
      · simp at h; omega
      · rw [decF_ok fuel (n / 10) _ (by rw [Nat.pow_succ] at h; omega) hf]
        conv => rhs; rw [Lib.decDigits, dif_neg hn]
        simp
noncomputable def spNL (k m : Nat) (tl : List AV → Bool) : SpecE := fun us _ _ K => match us with
  | .int j (.ofNat n) :: r => must (Nat.beq j k) (must (tl r) (must (prB (InR k (n : Int))) (must (Nat.blt n m) (K (.str (decF 20 n [])) .leaf 0))))
  | _ => false
noncomputable def tl0 (r : List AV) : Bool := match r with | [] => true | _ => false
theorem itoa_nat (n : Nat) : Lib.itoa (n : Int) = Lib.decDigits n := by
  unfold Lib.itoa
  rw [if_neg (by omega)]
  simp
theorem doneL {f : Nat} {xs : Array Value} {s : List Nat} {K : AV → T → Nat → Bool} {R : Ending → World → Prop} (hE : EOk E) (hs : Sim E ρ G F M nx w) (hc : Calls P f xs w (Ret { G with M := E.M } F fun _ v => v = S (s.map UInt8.ofNat))) (hk : K (.str s) .leaf 0 = true) (hr : ContE 0 E ρ G F K R) : Calls P f xs w R := by
  refine hc.mono fun e w' ⟨v, G', he, hG, hh, hv⟩ => ?_
  subst he; subst hv
  exact hr _ _ _ ⟨E.at_, G'.M⟩ (fun _ => none) w' _ hk ⟨hE.1, Tied.mono (fun b o h => hG.mem b o h) hE.2⟩ (fun b o h => hG.mem b o h) (fun i e h => absurd h (Nat.not_lt_zero i)) (hs.bare hG hh) rfl
theorem natE_NL {f k m : Nat} (hm : m ≤ 100000000000000000000) {tl : List AV → Bool} {ts : List Value} (ht : ∀ (E : Env) (ρ : Ren) (r : List AV) (xs : List Value), tl r = true → denL E ρ r = some xs → xs = ts) (hI : ∀ (n : Nat) (G : GS) (w : World) (F : List Chunk), n < m → InR k (n : Int) → Tied G.M → Holds G w F → Calls P f (Value.int (kOf k) (n : Int) :: ts).toArray w (Ret G F fun _ v => v = S (Lib.decDigits n))) : NatE P f 0 (spNL k m tl) := by
  intro us xs E ρ G F M nx w K R hE hs hd hk hr
  unfold spNL at hk
  split at hk
  case h_2 => cases hk
  rename_i j n r
  obtain ⟨q1, hk1⟩ := must_ok hk
  obtain ⟨q2, hk2⟩ := must_ok hk1
  obtain ⟨q3, hk3⟩ := mustP_ok hk2
  obtain ⟨q4, hk4⟩ := must_ok hk3
  have q1 := Nat.eq_of_beq_eq_true q1
  subst q1
  rw [Nat.blt_eq] at q4
  obtain ⟨x, ys, h1, h2, rfl⟩ := denL_cons hd
  obtain rfl := ht E ρ r ys q2 h2
  obtain rfl : x = .int (kOf j) (n : Int) := by simpa [den] using h1.symm
  obtain ⟨c, hh, _, _⟩ := hs.ex
  have := hI n { G with M := E.M } w F q4 q3 hE.2 hh.drop
  have e := decF_ok 20 n [] (Nat.lt_of_lt_of_le q4 (Nat.le_trans hm (by decide))) (by omega)
  rw [List.map_nil, List.append_nil] at e
  rw [← e] at this
  exact doneL hE hs this hk4 hr
theorem tl0_ok (E : Env) (ρ : Ren) (r : List AV) (xs : List Value) (h : tl0 r = true) (hd : denL E ρ r = some xs) : xs = [] := by
  unfold tl0 at h
  split at h
  · simpa [denL] using hd.symm
  · cases h
noncomputable def sA (v : AV) (K : List UInt8 → Bool) : Bool := match v with
  | .str l => K (l.map UInt8.ofNat)
  | .sy (.str l) => K l
  | _ => false
theorem sA_ok {v : AV} {K : List UInt8 → Bool} (h : sA v K = true) : ∃ s, den E ρ v = some (S s) ∧ K s = true := by
  unfold sA at h
  split at h
  · exact ⟨_, by simp [den], h⟩
  · exact ⟨_, by simp [den, denS], h⟩
  · cases h
noncomputable def wsA (l : List (List AV)) : (List (List UInt8) → Bool) → Bool := List.rec (fun K => K []) (fun e _ ih K => match e with
  | [v] => sA v fun s => ih fun ws => K (s :: ws)
  | _ => false) l
theorem wsA_ok : ∀ {l : List (List AV)} {K : List (List UInt8) → Bool}, wsA l K = true → ∃ ws vs, l = vs.map (fun v => [v]) ∧ denL E ρ vs = some (ws.map S) ∧ K ws = true
  | [], K, h => ⟨[], [], rfl, rfl, h⟩
  | e :: l, K, h => by
    have h' : (match (generalizing := false) e with
      | [v] => sA v fun s => wsA l fun ws => K (s :: ws)
      | _ => false) = true := h
    split at h'
    · obtain ⟨s, h1, h2⟩ := sA_ok (E := E) (ρ := ρ) h'
      obtain ⟨ws, vs, e1, e2, e3⟩ := wsA_ok h2
      exact ⟨s :: ws, _ :: vs, by simp [e1], denL_mk h1 e2, e3⟩
    · cases h'
noncomputable def capB (g : Bool) (n : Nat) (c : ACap) : Bool := match c with
  | .ex m => Nat.ble n m
  | .rest 0 => g
  | _ => false
noncomputable def joinK (ws : List (List UInt8)) (sep : List UInt8) (K : AV → T → Nat → Bool) : Bool := must (prB ((Lib.join ws sep).length ≤ 140737488355328)) (must (prB (ws.length ≤ 140737488355328)) (K (.sy (.str (Lib.join ws sep))) .leaf 0))
noncomputable def spJoin : SpecE := fun us M _ K => match us with
  | [a, s] => sA s fun sep => (match a with
    | .nilS => joinK [] sep K
    | .sl 0 0 n c => (match M.get 0 with
      | some (.blk g _ 1 els) => must (Nat.ble n (lenL els)) (must (capB g n c) (wsA (els.take n) fun ws => joinK ws sep K))
      | _ => false)
    | .sy (.prow 0 n) => (match M.get 0 with
      | some (.prow _ 1 _ l enc) => exB fun ws : List (List UInt8) => must (prB (l.map enc = ws.map encT)) (must (prB (n = ws.length)) (joinK ws sep K))
      | _ => false)
    | .sy (.imm _ 1 _ l enc) => exB fun ws : List (List UInt8) => must (prB (l.map enc = ws.map encT)) (joinK ws sep K)
    | _ => false)
  | _ => false
theorem flatMap_encT {α : Type} {l : List α} {enc : α → List PL} {ws : List (List UInt8)} (h : l.map enc = ws.map encT) : l.flatMap enc = ws.map PL.sstr := by
  rw [List.flatMap_def, h]
  clear h
  induction ws with
  | nil => rfl
  | cons a r ih =>
    show PL.sstr a :: (List.map encT r).flatten = PL.sstr a :: List.map PL.sstr r
    rw [ih]
theorem flatMap_encU {α : Type} {l : List α} {enc : α → List PL} {ws : List UInt8} (h : l.map enc = ws.map encU) : l.flatMap enc = ws.map fun x => PL.sint 1 (x.toNat : Int) := by
  rw [List.flatMap_def, h]
  clear h
  induction ws with
  | nil => rfl
  | cons a r ih =>
    show PL.sint 1 (a.toNat : Int) :: (List.map encU r).flatten = PL.sint 1 (a.toNat : Int) :: List.map (fun x => PL.sint 1 (x.toNat : Int)) r
    rw [ih]
theorem take_at {α : Type} {l : List α} {m j : Nat} {y : α} (h : (l.take m)[j]? = some y) : l[j]? = some y := by
  rw [List.getElem?_take] at h
  split at h
  · exact h
  · cases h
theorem natE_join {f : Nat} (hJ : ∀ (bk o c : Nat) (ws : List (List UInt8)) (sep : List UInt8) (w : World), (∀ (j : Nat) x, ws[j]? = some x → w.cell? ⟨bk, o + j, none⟩ = some (S x)) → bk < w.heap.size → ws.length ≤ 140737488355328 → ws.length ≤ c → (Lib.join ws sep).length ≤ 140737488355328 →
      Calls P f #[.slice (some ⟨bk, o, none⟩) ws.length c, S sep] w fun e w' => e = .returned (S (Lib.join ws sep)) ∧ Below w.heap.size w w')
    (hN : ∀ (a : Option Addr) (c : Nat) (sep : List UInt8) (w : World), Calls P f #[.slice a 0 c, S sep] w fun e w' => e = .returned (S (Lib.join [] sep)) ∧ Below w.heap.size w w') : NatE P f 0 spJoin := by
  intro us xs E ρ G F M nx w K R hE hs hd hk hr
  unfold spJoin at hk
  split at hk
  case h_2 => cases hk
  rename_i a s
  obtain ⟨xa, ys, d1, d2, rfl⟩ := denL_cons hd
  obtain ⟨xs', ys2, d3, d4, rfl⟩ := denL_cons d2
  obtain rfl : ys2 = [] := by simpa [denL] using d4.symm
  obtain ⟨sep, e1, hk1⟩ := sA_ok (E := E) (ρ := ρ) hk
  clear hk
  have hk := hk1
  clear hk1
  obtain rfl : xs' = S sep := Option.some.inj (d3.symm.trans e1)
  split at hk
  · obtain rfl : xa = .slice none 0 0 := by simpa [den] using d1.symm
    obtain ⟨l1, hk⟩ := mustP_ok hk
    obtain ⟨l2, hk⟩ := mustP_ok hk
    exact doneB hE hs (hN none 0 sep w) hk hr
  · rename_i n c
    split at hk
    case h_2 => cases hk
    rename_i g T els hM
    obtain ⟨hn, hk⟩ := must_ok hk
    obtain ⟨hc, hk⟩ := must_ok hk
    obtain ⟨ws, vs, e2, e3, hk⟩ := wsA_ok (E := E) (ρ := ρ) hk
    obtain ⟨l1, hk⟩ := mustP_ok hk
    obtain ⟨l2, hk⟩ := mustP_ok hk
    rw [lenL_eq, Nat.ble_eq] at hn
    obtain ⟨e, ob, r0, hheap, _, _, arr, xs0, rfl, hdd, hR⟩ := hs.obj hM (fun _ => rfl)
    obtain rfl : xa = .slice (some ⟨e.b, 0, none⟩) n (capOf e c) := by simpa [den, r0] using d1.symm
    have hlv : vs.length = n := by
      have := congrArg List.length e2
      simpa [hn] using this.symm
    have hlw : ws.length = n := by
      have := denL_len e3
      simpa [hlv] using this
    have hsp : els.flatten = vs ++ (els.drop n).flatten := by
      conv => lhs; rw [← List.take_append_drop n els, List.flatten_append, e2]
      congr 1
      clear e2 e3 hlv
      induction vs with
      | nil => rfl
      | cons v r ih => simpa using ih
    rw [hsp] at hdd
    obtain ⟨xs1, xs2, f1, f2, rfl⟩ := denL_split hdd
    obtain rfl : xs1 = ws.map S := Option.some.inj (f1.symm.trans e3)
    have hcell : ∀ (j : Nat) x, ws[j]? = some x → arr.toList[j]? = some (S x) := by
      intro j x hx
      have hj : (ws.map S ++ xs2)[j]? = some (S x) := by
        rw [List.getElem?_append_left (by rw [List.length_map]; exact (List.getElem?_eq_some_iff.1 hx).1)]
        simp [hx]
      cases g with
      | false => exact (show arr.toList = _ from hR) ▸ hj
      | true =>
        obtain ⟨_, q, _⟩ := (show arr.size = e.cap * 1 ∧ arr.toList.take (els.length * 1) = ws.map S ++ xs2 ∧ els.length ≤ e.cap ∧ e.cap ≤ maxLen from hR)
        rw [← q] at hj
        exact take_at hj
    have hcap : n ≤ capOf e c := by
      unfold capB at hc
      split at hc
      · exact Nat.le_of_ble_eq_true hc
      · subst hc
        obtain ⟨_, _, q, _⟩ := (show arr.size = e.cap * 1 ∧ arr.toList.take (els.length * 1) = ws.map S ++ xs2 ∧ els.length ≤ e.cap ∧ e.cap ≤ maxLen from hR)
        show n ≤ e.cap - 0
        omega
      · cases hc
    have := hJ e.b 0 (capOf e c) ws sep w (fun j x hx => by
      have := hcell j x hx
      simp only [World.cell?, hheap, Nat.zero_add]
      simpa using this) (lt_of_heap hheap) l2 (by omega) l1
    rw [hlw] at this
    exact doneB hE hs this hk hr
  · rename_i n
    split at hk
    case h_2 => cases hk
    rename_i T α l enc hM
    obtain ⟨ws, hk2⟩ := exB_ok hk
    obtain ⟨e2, hk3⟩ := mustP_ok hk2
    obtain ⟨en, hk4⟩ := mustP_ok hk3
    obtain ⟨l1, hk5⟩ := mustP_ok hk4
    obtain ⟨l2, hk6⟩ := mustP_ok hk5
    clear hk hk2 hk3 hk4 hk5
    subst en
    have hll : l.length = ws.length := by simpa using congrArg List.length e2
    obtain ⟨e, r0, ⟨hB, ob, hheap, arr, xs0, rfl, _, _, hdd, hsz, htk, hle, hmx⟩ | ⟨hB, hnil, _⟩⟩ := hs.objP hM
    · obtain ⟨cc, hcc⟩ : ∃ cc, e.cap = cc + 1 := by
        rcases h0 : e.cap with _ | cc
        · simp [hasB, h0] at hB
        · exact ⟨cc, rfl⟩
      obtain rfl : xa = .slice (some ⟨e.b, 0, none⟩) ws.length cc := by simpa [den, denS, r0, hdrP, hcc] using d1.symm
      rw [flatMap_encT e2] at hdd
      obtain ⟨_, rfl⟩ := denPs_some hdd
      have := hJ e.b 0 cc ws sep w (fun j x hx => by
        have hj : ((ws.map PL.sstr).map valP)[j]? = some (S x) := by simp [hx, valP]
        rw [← htk] at hj
        have := take_at hj
        simp only [World.cell?, hheap, Nat.zero_add]
        simpa using this) (lt_of_heap hheap) l2 (by omega) l1
      exact doneB hE hs this hk6 hr
    · have hc0 : e.cap = 0 := by simpa [hasB] using hB
      subst hnil
      obtain rfl : ws = [] := by simpa using e2.symm
      obtain rfl : xa = .slice none 0 0 := by simpa [den, denS, r0, hdrP, hc0] using d1.symm
      exact doneB hE hs (hN none 0 sep w) hk6 hr
  · rename_i h α l enc
    obtain ⟨ws, hk⟩ := exB_ok hk
    obtain ⟨e2, hk⟩ := mustP_ok hk
    obtain ⟨l1, hk⟩ := mustP_ok hk
    obtain ⟨l2, hk⟩ := mustP_ok hk
    have hll : l.length = ws.length := by simpa using congrArg List.length e2
    obtain ⟨ok, rfl⟩ := denP_some (show denP E (.imm h 1 α l enc) = some xa by simpa [den, denS] using d1)
    cases ok with
    | imm ao cap hh h1 h2 h3 ha hl ho hr2 =>
      subst hh
      show Calls P f #[.slice ao l.length cap, S sep] w R
      rcases Nat.eq_zero_or_pos l.length with h0 | h0
      · obtain rfl : ws = [] := List.eq_nil_of_length_eq_zero (by omega)
        rw [h0]
        exact doneB hE hs (hN ao cap sep w) hk hr
      · have hc : ∀ (j : Nat) x, ws[j]? = some x → w.cell? ⟨blk ao, ofs ao + j, none⟩ = some (S x) := by
          intro j x hx
          have e3 : (l.map enc)[j]? = some (encT x) := by rw [e2]; simp [hx]
          rw [List.getElem?_map, Option.map_eq_some_iff] at e3
          obtain ⟨y, hy, e4⟩ := e3
          have := hr2 j y hy 0 (S x) (by rw [e4]; rfl)
          simp only [Nat.mul_one, Nat.add_zero] at this
          exact hs.cellM this
        have hb : blk ao < w.heap.size := by
          obtain ⟨x, hx⟩ : ∃ x, ws[0]? = some x := ⟨ws[0]'(by omega), by simp⟩
          have := hc 0 x hx
          unfold World.cell? at this
          rcases hh : w.heap[blk ao]? with _ | o
          · simp [hh] at this
          · exact lt_of_heap hh
        have := hJ (blk ao) (ofs ao) cap ws sep w hc hb l2 (by omega) l1
        rw [← ha h0, ← hll] at this
        exact doneB hE hs this hk hr
  · cases hk
noncomputable def bufA (M : T) (b0 : AV) (K : List UInt8 → Bool) : Bool := match b0 with
  | .nilS => K []
  | .sy (.prow 1 n) => (match M.get 1 with
    | some (.prow 5 1 _ l enc) => exB fun s : List UInt8 => must (prB (l.map enc = s.map encU)) (must (prB (n = s.length)) (K s))
    | _ => false)
  | _ => false
noncomputable def isA0 (a0 : AV) : Bool := match a0 with
  | .nilP => true
  | .ptr 0 0 => true
  | _ => false
noncomputable def mB (Ty : Nat) (s : List UInt8) (n : Nat) : T := .node (.node .leaf (some (.prow 5 1 UInt8 s encU)) .leaf) (some (.blk false Ty 2 [[.ptr 0 0, .sy (.prow 1 n)]])) .leaf
noncomputable def anyB (n : Nat) (l : List Nat) : Bool := List.rec false (fun m _ ih => Bool.rec ih true (Nat.beq n m)) l
theorem anyB_ok : ∀ {n : Nat} {l : List Nat}, anyB n l = true → n ∈ l
  | n, [], h => by cases h
  | n, m :: l, h => by
    have h' : (Bool.rec (anyB n l) true (Nat.beq n m) : Bool) = true := h
    cases hb : Nat.beq n m with
    | true => rw [Nat.eq_of_beq_eq_true hb]; simp
    | false => rw [hb] at h'; exact List.mem_cons_of_mem _ (anyB_ok h')
noncomputable def spWrite (Ts : List Nat) : SpecE := fun us M _ K => match us with
  | [.ptr 0 0, s] => (match M.get 0 with
    | some (.blk false Ty 2 [[a0, b0]]) => must (anyB Ty Ts) (must (isA0 a0) (bufA M b0 fun l => sA s fun t => must (prB (l.length + t.length ≤ 140737488355328)) (K (.tup [.sy (.int 0 (t.length : Int)), .nilI]) (mB Ty (l ++ t) (l ++ t).length) 2)))
    | _ => false)
  | _ => false
noncomputable def spGet (Ts : List Nat) : SpecE := fun us M _ K => match us with
  | [.ptr 0 0] => (match M.get 0 with
    | some (.blk false Ty 2 [[a0, b0]]) => must (anyB Ty Ts) (must (isA0 a0) (match b0 with
      | .nilS => K (.sy (.str [])) .leaf 0
      | .sy (.prow 1 n) => bufA M b0 fun l => must (prB (l ≠ [])) (K (.sy (.str l)) .leaf 0)
      | _ => false))
    | _ => false)
  | _ => false
theorem bufA_ok {M : T} {b0 : AV} {K : List UInt8 → Bool} (h : bufA M b0 K = true) : ∃ s, ((b0 = .nilS ∧ s = []) ∨ (b0 = .sy (.prow 1 s.length) ∧ ∃ α l, ∃ enc : α → List PL, M.get 1 = some (.prow 5 1 α l enc) ∧ l.map enc = s.map encU)) ∧ K s = true := by
  unfold bufA at h
  split at h
  · exact ⟨[], .inl ⟨rfl, rfl⟩, h⟩
  · split at h
    case h_2 => cases h
    rename_i α l enc hM
    obtain ⟨s, h2⟩ := exB_ok h
    obtain ⟨e1, h3⟩ := mustP_ok h2
    obtain ⟨en, h4⟩ := mustP_ok h3
    subst en
    exact ⟨s, .inr ⟨rfl, α, l, enc, hM, e1⟩, h4⟩
  · cases h
theorem isA0_ok {a0 : AV} (h : isA0 a0 = true) : a0 = .nilP ∨ a0 = .ptr 0 0 := by
  unfold isA0 at h
  split at h
  · exact .inl rfl
  · exact .inr rfl
  · cases h
theorem build_in (hs : Sim E ρ G F M nx w) {Ty : Nat} {a0 b0 : AV} {s : List UInt8} (h0 : M.get 0 = some (.blk false Ty 2 [[a0, b0]])) (ha : a0 = .nilP ∨ a0 = .ptr 0 0)
    (hb : (b0 = .nilS ∧ s = []) ∨ (b0 = .sy (.prow 1 s.length) ∧ ∃ α l, ∃ enc : α → List PL, M.get 1 = some (.prow 5 1 α l enc) ∧ l.map enc = s.map encU)) :
    ∃ e p ao cap cr, ρ 0 = some e ∧ (p = .pointer none ∨ p = .pointer (some ⟨e.b, 0, none⟩)) ∧ Row 5 1 ao s.length cap (s.map u8) cr ∧ (b0 = .nilS → ao = none) ∧ Holds { G with M := E.M } w (((e.b, .cells #[p, .slice ao s.length cap] Ty (0, 0)) :: cr) :: F) := by
  obtain ⟨c0, hh, ho, hj⟩ := hs.ex
  obtain ⟨e, r0, ⟨_, ob, hm, _, _, arr, xs, rfl, hd, hR⟩ | ⟨q, _⟩⟩ := ho 0 _ h0
  case inr => cases q
  have hR : arr.toList = xs := hR
  obtain ⟨x0, ys, d0, d1, rfl⟩ := denL_cons (show denL E ρ [a0, b0] = some xs from hd)
  obtain ⟨x1, zs, d2, d3, rfl⟩ := denL_cons d1
  obtain rfl : zs = [] := by simpa [denL] using d3.symm
  have harr : arr = #[x0, x1] := Array.toList_inj.1 hR
  subst harr
  have hp : x0 = .pointer none ∨ x0 = .pointer (some ⟨e.b, 0, none⟩) := by
    rcases ha with rfl | rfl
    · exact .inl (by simpa [den] using d0.symm)
    · exact .inr (by simpa [den, r0] using d0.symm)
  rcases hb with ⟨rfl, rfl⟩ | ⟨rfl, α, l, enc, hM, e1⟩
  · obtain rfl : x1 = .slice none 0 0 := by simpa [den] using d2.symm
    exact ⟨e, x0, none, 0, [], r0, hp, Row.nil 5 1, fun _ => rfl, hh.pick1 hm⟩
  · have hll : l.length = s.length := by simpa using congrArg List.length e1
    obtain ⟨f, r1, ⟨hB, ob1, hm1, arr1, xs1, rfl, _, _, hdd, hsz, htk, hle, hmx⟩ | ⟨hB, hnil, _⟩⟩ := ho 1 _ hM
    · obtain ⟨cc, hcc⟩ : ∃ cc, f.cap = cc + 1 := by
        rcases h0 : f.cap with _ | cc
        · simp [hasB, h0] at hB
        · exact ⟨cc, rfl⟩
      obtain rfl : x1 = .slice (some ⟨f.b, 0, none⟩) s.length cc := by simpa [den, denS, r1, hdrP, hcc] using d2.symm
      rw [flatMap_encU e1] at hdd
      obtain ⟨_, rfl⟩ := denPs_some hdd
      have hne : e.b ≠ f.b := fun q => by
        have := hj 0 1 e f _ _ h0 hM r0 r1 rfl hB q
        omega
      refine ⟨e, x0, _, cc, [(f.b, .cells arr1 5 (0, 0))], r0, hp, ⟨by simp, .inr ⟨f.b, arr1, rfl, rfl, by omega, by omega, by rw [hsz, hcc]; simp, ?_⟩⟩, fun q => (by cases q), hh.pick2 hm hm1 hne⟩
      rw [← hll, htk]
      simp [valP, kOf, u8, Function.comp_def]
    · have hc0 : f.cap = 0 := by simpa [hasB] using hB
      subst hnil
      obtain rfl : s = [] := by simpa using e1.symm
      obtain rfl : x1 = .slice none 0 0 := by simpa [den, denS, r1, hdrP, hc0] using d2.symm
      exact ⟨e, x0, none, 0, [], r0, hp, Row.nil 5 1, fun _ => rfl, hh.pick1 hm⟩
theorem mB_get (Ty : Nat) (s : List UInt8) (n : Nat) : ∀ i o, (mB Ty s n).get i = some o → (i = 0 ∧ o = .blk false Ty 2 [[.ptr 0 0, .sy (.prow 1 n)]]) ∨ (i = 1 ∧ o = .prow 5 1 UInt8 s encU)
  | 0, o, h => by cases h; exact .inl ⟨rfl, rfl⟩
  | 1, o, h => by cases h; exact .inr ⟨rfl, rfl⟩
  | m + 2, o, h => by
    exfalso
    unfold mB at h
    rcases Nat.mod_two_eq_zero_or_one (m + 1) with q | q
    · rw [T.get_even _ _ _ _ q] at h
      obtain ⟨k, hk⟩ : ∃ k, (m + 1) / 2 = k + 1 := ⟨(m + 1) / 2 - 1, by omega⟩
      rw [hk] at h
      rcases Nat.mod_two_eq_zero_or_one k with q | q
      · rw [T.get_even _ _ _ _ q, T.get_leaf] at h; cases h
      · rw [T.get_odd _ _ _ _ q, T.get_leaf] at h; cases h
    · rw [T.get_odd _ _ _ _ q, T.get_leaf] at h; cases h
theorem build_out (hs : Sim E ρ G F M nx w) {G' : GS} {w' : World} {Ty : Nat} {e : REnt} {s : List UInt8} {c : Chunk} (hG : GS.Le { G with M := E.M } G') (hh : Holds G' w' (c :: F)) (hb : BuildS Ty e.b s c) :
    ∃ ρ', ρ' 0 = some e ∧ Sim ⟨E.at_, G'.M⟩ ρ' G F (mB Ty s s.length) 2 w' := by
  obtain ⟨p, ao, cap, cr, rfl, hr, rfl⟩ := hb
  have hh := Holds.withM hG hh
  have hm : MLe G.M G'.M := MLe.trans hs.mem (fun b o h => hG.mem b o h)
  have key : ∀ f : REnt, ((hasB f (.prow 5 1 UInt8 s encU) = true ∧ f.b ≠ e.b ∧ ∃ ob, (f.b, ob) ∈ cr ∧ ORel ⟨E.at_, G'.M⟩ (fun i => match i with | 0 => some e | 1 => some f | _ => none) f (.prow 5 1 UInt8 s encU) ob) ∨ (hasB f (.prow 5 1 UInt8 s encU) = false ∧ s = [])) → hdrP f s.length = some (.slice ao s.length cap) →
      ∃ ρ' : Ren, ρ' 0 = some e ∧ Sim ⟨E.at_, G'.M⟩ ρ' G F (mB Ty s s.length) 2 w' := by
    intro f hf hv
    refine ⟨fun i => match i with | 0 => some e | 1 => some f | _ => none, rfl, ⟨_, hh, fun i o hi => ?_, fun i j e1 e2 o1 o2 hi hj he1 he2 hb1 hb2 hb => ?_⟩, hm, fun i hi => ?_⟩
    · rcases mB_get _ _ _ i o hi with ⟨rfl, rfl⟩ | ⟨rfl, rfl⟩
      · refine ⟨e, rfl, .inl ⟨rfl, _, List.mem_cons_self, fun l hl => ?_, by decide, _, _, rfl, ?_, rfl⟩⟩
        · simp only [List.mem_cons, List.not_mem_nil, or_false] at hl
          subst hl; rfl
        · simp [denL, den, denS, hv]
      · refine ⟨f, rfl, ?_⟩
        rcases hf with ⟨h1, _, ob, h2, h3⟩ | ⟨h1, h2⟩
        · exact .inl ⟨h1, ob, List.mem_cons_of_mem _ h2, h3⟩
        · exact .inr ⟨h1, h2, by decide⟩
    · rcases mB_get _ _ _ i o1 hi with ⟨rfl, rfl⟩ | ⟨rfl, rfl⟩ <;> rcases mB_get _ _ _ j o2 hj with ⟨rfl, rfl⟩ | ⟨rfl, rfl⟩
      · rfl
      · cases he1; cases he2
        rcases hf with ⟨_, h1, _⟩ | ⟨h1, _⟩
        · exact absurd hb.symm h1
        · rw [h1] at hb2; cases hb2
      · cases he1; cases he2
        rcases hf with ⟨_, h1, _⟩ | ⟨h1, _⟩
        · exact absurd hb h1
        · rw [h1] at hb1; cases hb1
      · rfl
    · match i, hi with
      | m + 2, _ => rfl
  rcases hr.form with ⟨rfl, h0, rfl, rfl⟩ | ⟨g, cur, rfl, rfl, h1, h2, h3, h4⟩
  · have : s = [] := List.eq_nil_of_length_eq_zero h0
    subst this
    exact key ⟨0, 0⟩ (.inr ⟨rfl, rfl⟩) rfl
  · refine key ⟨g, cap + 1⟩ (.inl ⟨rfl, ?_, _, List.mem_cons_self, cur, s.map u8, rfl, by decide, fun x _ => rfl, ?_, by simpa using h3, by simpa using h4, by simpa using h1, by simpa using h2⟩) (by simp [hdrP])
    · intro q
      have := hh.nodup
      simp only [List.flatten_cons, List.cons_append, List.nil_append, List.map_cons, List.nodup_cons, List.mem_cons] at this
      exact this.1 (.inl q.symm)
    · have e1 : s.flatMap encU = s.map fun x => PL.sint 1 (x.toNat : Int) := flatMap_encU rfl
      rw [e1, denPs_mk (fun p hp => by obtain ⟨x, _, rfl⟩ := List.mem_map.1 hp; exact .sint _ _)]
      simp [valP, kOf, u8, Function.comp_def]
theorem natE_write {f : Nat} {Ts : List Nat} {BT : Nat → Prop} (hT : ∀ Ty ∈ Ts, BT Ty) (hW : ∀ (Ty b : Nat) (l : List UInt8) (c : Chunk) (t : List UInt8) (G : GS) (w : World) (F : List Chunk), BT Ty → BuildD Ty b l c → l.length + t.length ≤ 140737488355328 → Holds G w (c :: F) →
      Calls P f #[.pointer (some ⟨b, 0, none⟩), S t] w (RetO G F fun _ v c1 => v = .tuple #[.int .i64 (t.length : Int), .nilIface] ∧ BuildS Ty b (l ++ t) c1)) : NatE P f 1 (spWrite Ts) := by
  intro us xs E ρ G F M nx w K R hE hs hd hk hr
  unfold spWrite at hk
  split at hk
  case h_2 => cases hk
  rename_i s
  split at hk
  case h_2 => cases hk
  rename_i Ty a0 b0 hM
  obtain ⟨q1, hk⟩ := must_ok hk
  obtain ⟨q2, hk⟩ := must_ok hk
  obtain ⟨l, q3, hk⟩ := bufA_ok hk
  obtain ⟨t, q4, hk⟩ := sA_ok (E := E) (ρ := ρ) hk
  obtain ⟨q5, hk⟩ := mustP_ok hk
  obtain ⟨e, p, ao, cap, cr, r0, hp, hrow, _, hh⟩ := build_in hs hM (isA0_ok q2) q3
  obtain ⟨x0, ys, d1, d2, rfl⟩ := denL_cons hd
  obtain ⟨x1, ys2, d3, d4, rfl⟩ := denL_cons d2
  obtain rfl : ys2 = [] := by simpa [denL] using d4.symm
  obtain rfl : x1 = S t := Option.some.inj (d3.symm.trans q4)
  obtain rfl : x0 = .pointer (some ⟨e.b, 0, none⟩) := by simpa [den, r0] using d1.symm
  refine (hW Ty e.b l _ t { G with M := E.M } w F (hT _ (anyB_ok q1)) ⟨p, ao, cap, cr, hp, hrow, rfl⟩ q5 hh).mono fun e' w' ⟨v, G', c', he, hG, hh', hv, hb⟩ => ?_
  subst he; subst hv
  obtain ⟨ρ', r1, hs'⟩ := build_out hs hG hh' hb
  refine hr _ _ _ ⟨E.at_, G'.M⟩ ρ' w' _ hk ⟨hE.1, Tied.mono (fun b o h => hG.mem b o h) hE.2⟩ (fun b o h => hG.mem b o h) (fun i e2 hi he2 => ?_) hs' (by simp [den, denL, denS, kOf])
  obtain rfl : i = 0 := by omega
  rw [r0] at he2; cases he2; exact r1
theorem natE_get {f : Nat} {Ts : List Nat} {BT : Nat → Prop} (hT : ∀ Ty ∈ Ts, BT Ty) (hW : ∀ (Ty b : Nat) (l : List UInt8) (c : Chunk) (G : GS) (w : World) (F : List Chunk), BT Ty → BuildC Ty b l c → Holds G w (c :: F) →
      Calls P f #[.pointer (some ⟨b, 0, none⟩)] w (Ret G F fun _ v => v = S l)) : NatE P f 0 (spGet Ts) := by
  intro us xs E ρ G F M nx w K R hE hs hd hk hr
  unfold spGet at hk
  split at hk
  case h_2 => cases hk
  split at hk
  case h_2 => cases hk
  rename_i Ty a0 b0 hM
  obtain ⟨q1, hk⟩ := must_ok hk
  obtain ⟨q2, hk⟩ := must_ok hk
  obtain ⟨x0, ys, d1, d2, rfl⟩ := denL_cons hd
  obtain rfl : ys = [] := by simpa [denL] using d2.symm
  split at hk
  · obtain ⟨e, p, ao, cap, cr, r0, hp, hrow, hn, hh⟩ := build_in (s := []) hs hM (isA0_ok q2) (.inl ⟨rfl, rfl⟩)
    obtain rfl : x0 = .pointer (some ⟨e.b, 0, none⟩) := by simpa [den, r0] using d1.symm
    exact doneR hE hs (hW Ty e.b [] _ { G with M := E.M } w F (hT _ (anyB_ok q1)) ⟨p, ao, cap, cr, hp, hrow, fun _ => hn rfl, rfl⟩ hh) hk hr
  · obtain ⟨l, q3, hk⟩ := bufA_ok hk
    obtain ⟨q5, hk⟩ := mustP_ok hk
    obtain ⟨e, p, ao, cap, cr, r0, hp, hrow, hn, hh⟩ := build_in hs hM (isA0_ok q2) q3
    obtain rfl : x0 = .pointer (some ⟨e.b, 0, none⟩) := by simpa [den, r0] using d1.symm
    exact doneR hE hs (hW Ty e.b l _ { G with M := E.M } w F (hT _ (anyB_ok q1)) ⟨p, ao, cap, cr, hp, hrow, fun q => absurd q q5, rfl⟩ hh) hk hr
  · cases hk
end
end Go.Sy
namespace Go.Proofs
open Go.Shelf
def Tryd.lays156_ren : Go.Shelf.Ren := ⟨fun | 156 => 45 | 165 => 70 | 166 => 17 | 169 => 21 | 240 => 39 | 241 => 84 | 276 => 65 | 277 => 93 | n => n, fun | 31 => 95 | 9 => 9 | 3 => 3 | 4 => 4 | 0 => 0 | 20 => 20 | 72 => 56 | 76 => 59 | 70 => 53 | 37 => 54 | 75 => 58 | 127 => 103 | 164 => 123 | 5 => 5 | 80 => 64 | n => n, fun | n => n⟩
theorem Tryd.lays156 : Go.Proofs.Lays.n156 Tryd.prog Tryd.lays156_ren := {
  mixed := by kernel_rfl
  f156 := Tryd.func45.trans (congrArg some (by kernel_rfl))
  f165 := Tryd.func70.trans (congrArg some (by kernel_rfl))
  f166 := Tryd.func17.trans (congrArg some (by kernel_rfl))
  f169 := Tryd.func21.trans (congrArg some (by kernel_rfl))
  f240 := Tryd.func39.trans (congrArg some (by kernel_rfl))
  f241 := Tryd.func84.trans (congrArg some (by kernel_rfl))
  f276 := Tryd.func65.trans (congrArg some (by kernel_rfl))
  f277 := Tryd.func93.trans (congrArg some (by kernel_rfl))
  t0 := Tryd.underlying0
  a0 := Tryd.isAgg0
  z0 := Tryd.sizeOf0
  v0 := Tryd.zeroValue0
  t3 := Tryd.underlying3
  a3 := Tryd.isAgg3
  z3 := Tryd.sizeOf3
  v3 := Tryd.zeroValue3
  t4 := Tryd.underlying4
  a4 := Tryd.isAgg4
  z4 := Tryd.sizeOf4
  v4 := Tryd.zeroValue4
  t9 := Tryd.underlying9
  a9 := Tryd.isAgg9
  z9 := Tryd.sizeOf9
  v9 := Tryd.zeroValue9
  t20 := Tryd.underlying20
  a20 := Tryd.isAgg20
  z20 := Tryd.sizeOf20
  v20 := Tryd.zeroValue20
  t31 := Tryd.underlying95
  a31 := Tryd.isAgg95
  z31 := Tryd.sizeOf95
  v31 := Tryd.zeroValue95
  t37 := Tryd.underlying54
  a37 := Tryd.isAgg54
  z37 := Tryd.sizeOf54
  v37 := Tryd.zeroValue54
  t70 := Tryd.underlying53
  a70 := Tryd.isAgg53
  z70 := Tryd.sizeOf53
  v70 := Tryd.zeroValue53
  t72 := Tryd.underlying56
  a72 := Tryd.isAgg56
  z72 := Tryd.sizeOf56
  v72 := Tryd.zeroValue56
  t75 := Tryd.underlying58
  a75 := Tryd.isAgg58
  z75 := Tryd.sizeOf58
  v75 := Tryd.zeroValue58
  t76 := Tryd.underlying59
  a76 := Tryd.isAgg59
  z76 := Tryd.sizeOf59
  v76 := Tryd.zeroValue59
  t127 := Tryd.underlying103
  a127 := Tryd.isAgg103
  z127 := Tryd.sizeOf103
  v127 := Tryd.zeroValue103
  t164 := Tryd.underlying123
  a164 := Tryd.isAgg123
  z164 := Tryd.sizeOf123
  v164 := Tryd.zeroValue123 }
theorem Tryd.Builder_Extra_156 : Builder.Extra Tryd.prog Tryd.lays156_ren := {
  sizeBuilder := by kernel_rfl
  liesBuilder := by kernel_rfl
  t5 := Tryd.underlying5
  a5 := Tryd.isAgg5
  z5 := Tryd.sizeOf5
  v5 := Tryd.zeroValue5
  infoByte := by kernel_rfl
  cellsByte := by kernel_rfl
  sizeByte := by kernel_rfl
  neB5 := by decide }
open Go.RowKit in
theorem Tryd.strings_Join_none (a : Option Addr) (c : Nat) (sep : ByteArray) (w : World) :
    Calls Tryd.prog 45 #[.slice a 0 c, .string sep] w fun e w' => e = .returned (.string ⟨#[]⟩) ∧ w' = w := Any.strings_Join_none Tryd.lays156 Tryd.Builder_Extra_156 a c sep w
open Go.RowKit in
theorem Tryd.strings_Join (bk o c : Nat) (xs : List ByteArray) (sep : ByteArray) (w : World) (hcells : ∀ (j : Nat) x, xs[j]? = some x → w.cell? ⟨bk, o + j, none⟩ = some (.string x)) (hbk : bk < w.heap.size) (hN : xs.length ≤ 140737488355328) (hcap : xs.length ≤ c) (hlen : (Lib.join (xs.map (·.data.toList)) sep.data.toList).length ≤ 140737488355328) :
    Calls Tryd.prog 45 #[.slice (some ⟨bk, o, none⟩) xs.length c, .string sep] w fun e w' => e = .returned (.string ⟨(Lib.join (xs.map (·.data.toList)) sep.data.toList).toArray⟩) ∧ Below w.heap.size w w' := Any.strings_Join Tryd.lays156 Tryd.Builder_Extra_156 bk o c xs sep w hcells hbk hN hcap hlen
def Tryd.lays283_ren : Go.Shelf.Ren := ⟨fun | 283 => 80 | n => n, fun | 3 => 3 | 9 => 9 | 4 => 4 | n => n, fun | n => n⟩
theorem Tryd.lays283 : Go.Proofs.Lays.n283 Tryd.prog Tryd.lays283_ren := {
  mixed := by kernel_rfl
  f283 := Tryd.func80.trans (congrArg some (by kernel_rfl))
  t3 := Tryd.underlying3
  a3 := Tryd.isAgg3
  z3 := Tryd.sizeOf3
  v3 := Tryd.zeroValue3
  t4 := Tryd.underlying4
  a4 := Tryd.isAgg4
  z4 := Tryd.sizeOf4
  v4 := Tryd.zeroValue4
  t9 := Tryd.underlying9
  a9 := Tryd.isAgg9
  z9 := Tryd.sizeOf9
  v9 := Tryd.zeroValue9 }
open Go.Lib in
theorem Tryd.internal_strconv_small (i : Nat) (h : i < 100) (w : World) :
    Calls Tryd.prog 80 #[.int .i64 i] w fun e w' => e = .returned (.string ⟨(Lib.decDigits i).toArray⟩) ∧ w' = w := Any.internal_strconv_small Tryd.lays283 i h w
def Tryd.laysM284_ren : Go.Shelf.Ren := ⟨fun | 284 => 81 | 129 => 89 | 317 => 88 | 318 => 90 | n => n, fun | 53 => 23 | 3 => 3 | 212 => 142 | 0 => 0 | 4 => 4 | 46 => 144 | 5 => 5 | 9 => 9 | n => n, fun | 17 => 0 | n => n⟩
theorem Tryd.laysM284 : Go.Proofs.LaysM.n284 Tryd.prog Tryd.laysM284_ren := {
  mixed := by kernel_rfl
  f129 := Tryd.func89.trans (congrArg some (by kernel_rfl))
  f284 := Tryd.func81.trans (congrArg some (by kernel_rfl))
  f317 := Tryd.func88.trans (congrArg some (by kernel_rfl))
  f318 := Tryd.func90.trans (congrArg some (by kernel_rfl))
  t0 := Tryd.underlying0
  a0 := Tryd.isAgg0
  z0 := Tryd.sizeOf0
  v0 := Tryd.zeroValue0
  t3 := Tryd.underlying3
  a3 := Tryd.isAgg3
  z3 := Tryd.sizeOf3
  v3 := Tryd.zeroValue3
  t4 := Tryd.underlying4
  a4 := Tryd.isAgg4
  z4 := Tryd.sizeOf4
  v4 := Tryd.zeroValue4
  t5 := Tryd.underlying5
  a5 := Tryd.isAgg5
  z5 := Tryd.sizeOf5
  v5 := Tryd.zeroValue5
  t9 := Tryd.underlying9
  a9 := Tryd.isAgg9
  z9 := Tryd.sizeOf9
  v9 := Tryd.zeroValue9
  t46 := Tryd.underlying144
  a46 := Tryd.isAgg144
  z46 := Tryd.sizeOf144
  v46 := Tryd.zeroValue144
  t53 := Tryd.underlying23
  a53 := Tryd.isAgg23
  z53 := Tryd.sizeOf23
  v53 := Tryd.zeroValue23
  t212 := Tryd.underlying142
  a212 := Tryd.isAgg142
  z212 := Tryd.sizeOf142
  v212 := Tryd.zeroValue142
  g17 := by kernel_rfl
  i0 := by kernel_rfl
  i3 := by kernel_rfl
  i4 := by kernel_rfl
  i5 := by kernel_rfl
  i9 := by kernel_rfl
  i46 := by kernel_rfl
  i53 := by kernel_rfl
  i212 := by kernel_rfl
  m17 := by kernel_rfl }
open Go.Lib in
theorem Tryd.internal_strconv_numDigits (u : Nat) (h1 : 1 ≤ u) (h2 : u < 18446744073709551616) (w : World) (htab : Lib.TabIs Tryd.prog w "internal/strconv.uint64pow10" .u64 Lib.pow10Tab) :
    Calls Tryd.prog 81 #[.int .u64 u] w fun e w' => e = .returned (.int .i64 (Lib.nDigits u)) ∧ w' = w := Any.internal_strconv_numDigits Tryd.laysM284 u h1 h2 w htab
def Tryd.lays285_ren : Go.Shelf.Ren := ⟨fun | 285 => 82 | n => n, fun | 37 => 54 | 53 => 23 | 3 => 3 | 4 => 4 | 51 => 49 | 9 => 9 | 5 => 5 | 0 => 0 | n => n, fun | n => n⟩
theorem Tryd.lays285 : Go.Proofs.Lays.n285 Tryd.prog Tryd.lays285_ren := {
  mixed := by kernel_rfl
  f285 := Tryd.func82.trans (congrArg some (by kernel_rfl))
  t0 := Tryd.underlying0
  a0 := Tryd.isAgg0
  z0 := Tryd.sizeOf0
  v0 := Tryd.zeroValue0
  t3 := Tryd.underlying3
  a3 := Tryd.isAgg3
  z3 := Tryd.sizeOf3
  v3 := Tryd.zeroValue3
  t4 := Tryd.underlying4
  a4 := Tryd.isAgg4
  z4 := Tryd.sizeOf4
  v4 := Tryd.zeroValue4
  t5 := Tryd.underlying5
  a5 := Tryd.isAgg5
  z5 := Tryd.sizeOf5
  v5 := Tryd.zeroValue5
  t9 := Tryd.underlying9
  a9 := Tryd.isAgg9
  z9 := Tryd.sizeOf9
  v9 := Tryd.zeroValue9
  t37 := Tryd.underlying54
  a37 := Tryd.isAgg54
  z37 := Tryd.sizeOf54
  v37 := Tryd.zeroValue54
  t51 := Tryd.underlying49
  a51 := Tryd.isAgg49
  z51 := Tryd.sizeOf49
  v51 := Tryd.zeroValue49
  t53 := Tryd.underlying23
  a53 := Tryd.isAgg23
  z53 := Tryd.sizeOf23
  v53 := Tryd.zeroValue23 }
open Go.RowKit Go.Sort Go.Lib in
theorem Tryd.internal_strconv_formatBase10 (blk off cap : Nat) (u : Nat) (d : Array UInt8) (w : World) (hH : Holds (fun (b : UInt8) => Value.int .u8 (b.toNat : Int)) w blk off d) (hu : u < 10 ^ d.size) (hu64 : u < 18446744073709551616) (hsz : d.size < 4611686018427387904) :
    Calls Tryd.prog 82 #[.slice (some ⟨blk, off, none⟩) d.size cap, .int .u64 u] w fun e w' =>
      e = .returned (.tuple #[]) ∧ ∃ (n v' : Nat) (dk : Array UInt8), w' = (putRow (fun (b : UInt8) => Value.int .u8 (b.toNat : Int)) w blk off dk).drewN n ∧ FmtInv d.size u 0 v' dk := Any.internal_strconv_formatBase10 Tryd.lays285 blk off cap u d w hH hu hu64 hsz
def Tryd.laysM246_ren : Go.Shelf.Ren := ⟨fun | 246 => 79 | 283 => 80 | 284 => 81 | 285 => 82 | 286 => 83 | 129 => 89 | 317 => 88 | 318 => 90 | 319 => 91 | 320 => 92 | 337 => 95 | 338 => 96 | n => n, fun | 2 => 2 | 3 => 3 | 9 => 9 | 4 => 4 | 171 => 132 | 0 => 0 | 53 => 23 | 37 => 54 | 5 => 5 | 173 => 135 | 212 => 142 | 51 => 49 | 20 => 20 | 213 => 143 | 46 => 144 | 232 => 149 | 233 => 150 | n => n, fun | 17 => 0 | 18 => 2 | 19 => 3 | n => n⟩
def Tryd.laysM243_ren : Go.Shelf.Ren := ⟨fun | 243 => 66 | 246 => 79 | 283 => 80 | 284 => 81 | 285 => 82 | 286 => 83 | 129 => 89 | 317 => 88 | 318 => 90 | 319 => 91 | 320 => 92 | 337 => 95 | 338 => 96 | n => n, fun | 3 => 3 | 9 => 9 | 2 => 2 | 4 => 4 | 171 => 132 | 0 => 0 | 53 => 23 | 37 => 54 | 5 => 5 | 173 => 135 | 212 => 142 | 51 => 49 | 20 => 20 | 213 => 143 | 46 => 144 | 232 => 149 | 233 => 150 | n => n, fun | 17 => 0 | 18 => 2 | 19 => 3 | n => n⟩
def Tryd.laysM171_ren : Go.Shelf.Ren := ⟨fun | 171 => 40 | 243 => 66 | 246 => 79 | 283 => 80 | 284 => 81 | 285 => 82 | 286 => 83 | 129 => 89 | 317 => 88 | 318 => 90 | 319 => 91 | 320 => 92 | 337 => 95 | 338 => 96 | n => n, fun | 3 => 3 | 9 => 9 | 2 => 2 | 4 => 4 | 171 => 132 | 0 => 0 | 53 => 23 | 37 => 54 | 5 => 5 | 173 => 135 | 212 => 142 | 51 => 49 | 20 => 20 | 213 => 143 | 46 => 144 | 232 => 149 | 233 => 150 | n => n, fun | 17 => 0 | 18 => 2 | 19 => 3 | n => n⟩
theorem Tryd.laysM171 : Go.Proofs.LaysM.n171 Tryd.prog Tryd.laysM171_ren := {
  mixed := by kernel_rfl
  f129 := Tryd.func89.trans (congrArg some (by kernel_rfl))
  f171 := Tryd.func40.trans (congrArg some (by kernel_rfl))
  f243 := Tryd.func66.trans (congrArg some (by kernel_rfl))
  f246 := Tryd.func79.trans (congrArg some (by kernel_rfl))
  f283 := Tryd.func80.trans (congrArg some (by kernel_rfl))
  f284 := Tryd.func81.trans (congrArg some (by kernel_rfl))
  f285 := Tryd.func82.trans (congrArg some (by kernel_rfl))
  f286 := Tryd.func83.trans (congrArg some (by kernel_rfl))
  f317 := Tryd.func88.trans (congrArg some (by kernel_rfl))
  f318 := Tryd.func90.trans (congrArg some (by kernel_rfl))
  f319 := Tryd.func91.trans (congrArg some (by kernel_rfl))
  f320 := Tryd.func92.trans (congrArg some (by kernel_rfl))
  f337 := Tryd.func95.trans (congrArg some (by kernel_rfl))
  f338 := Tryd.func96.trans (congrArg some (by kernel_rfl))
  t0 := Tryd.underlying0
  a0 := Tryd.isAgg0
  z0 := Tryd.sizeOf0
  v0 := Tryd.zeroValue0
  t2 := Tryd.underlying2
  a2 := Tryd.isAgg2
  z2 := Tryd.sizeOf2
  v2 := Tryd.zeroValue2
  t3 := Tryd.underlying3
  a3 := Tryd.isAgg3
  z3 := Tryd.sizeOf3
  v3 := Tryd.zeroValue3
  t4 := Tryd.underlying4
  a4 := Tryd.isAgg4
  z4 := Tryd.sizeOf4
  v4 := Tryd.zeroValue4
  t5 := Tryd.underlying5
  a5 := Tryd.isAgg5
  z5 := Tryd.sizeOf5
  v5 := Tryd.zeroValue5
  t9 := Tryd.underlying9
  a9 := Tryd.isAgg9
  z9 := Tryd.sizeOf9
  v9 := Tryd.zeroValue9
  t20 := Tryd.underlying20
  a20 := Tryd.isAgg20
  z20 := Tryd.sizeOf20
  v20 := Tryd.zeroValue20
  t37 := Tryd.underlying54
  a37 := Tryd.isAgg54
  z37 := Tryd.sizeOf54
  v37 := Tryd.zeroValue54
  t46 := Tryd.underlying144
  a46 := Tryd.isAgg144
  z46 := Tryd.sizeOf144
  v46 := Tryd.zeroValue144
  t51 := Tryd.underlying49
  a51 := Tryd.isAgg49
  z51 := Tryd.sizeOf49
  v51 := Tryd.zeroValue49
  t53 := Tryd.underlying23
  a53 := Tryd.isAgg23
  z53 := Tryd.sizeOf23
  v53 := Tryd.zeroValue23
  t171 := Tryd.underlying132
  a171 := Tryd.isAgg132
  z171 := Tryd.sizeOf132
  v171 := Tryd.zeroValue132
  t173 := Tryd.underlying135
  a173 := Tryd.isAgg135
  z173 := Tryd.sizeOf135
  v173 := Tryd.zeroValue135
  t212 := Tryd.underlying142
  a212 := Tryd.isAgg142
  z212 := Tryd.sizeOf142
  v212 := Tryd.zeroValue142
  t213 := Tryd.underlying143
  a213 := Tryd.isAgg143
  z213 := Tryd.sizeOf143
  t232 := Tryd.underlying149
  a232 := Tryd.isAgg149
  z232 := Tryd.sizeOf149
  v232 := Tryd.zeroValue149
  t233 := Tryd.underlying150
  a233 := Tryd.isAgg150
  z233 := Tryd.sizeOf150
  v233 := Tryd.zeroValue150
  g17 := by kernel_rfl
  g18 := by kernel_rfl
  g19 := by kernel_rfl
  i0 := by kernel_rfl
  i2 := by kernel_rfl
  i3 := by kernel_rfl
  i4 := by kernel_rfl
  i5 := by kernel_rfl
  i9 := by kernel_rfl
  i20 := by kernel_rfl
  i37 := by kernel_rfl
  i46 := by kernel_rfl
  i51 := by kernel_rfl
  i53 := by kernel_rfl
  i171 := by kernel_rfl
  i173 := by kernel_rfl
  i212 := by kernel_rfl
  i232 := by kernel_rfl
  i233 := by kernel_rfl
  m17 := by kernel_rfl
  m18 := by kernel_rfl
  m19 := by kernel_rfl }
open Go.RowKit Go.Sort Go.Lib in
theorem Tryd.strconv_Itoa (n : Int) (h0 : -9223372036854775808 ≤ n) (h1 : n ≤ 9223372036854775807) (w : World) (htab : Lib.TabIs Tryd.prog w "internal/strconv.uint64pow10" .u64 Lib.pow10Tab) :
    Calls Tryd.prog 40 #[.int .i64 n] w fun e w' => e = .returned (.string ⟨(Lib.itoa n).toArray⟩) ∧ ∃ k os, w' = grow (w.drewN k) os := Any.strconv_Itoa Tryd.laysM171 n h0 h1 w htab
def Tryd.laysM173_ren : Go.Shelf.Ren := ⟨fun | 173 => 69 | 246 => 79 | 283 => 80 | 284 => 81 | 285 => 82 | 286 => 83 | 129 => 89 | 317 => 88 | 318 => 90 | 319 => 91 | 320 => 92 | 337 => 95 | 338 => 96 | n => n, fun | 2 => 2 | 3 => 3 | 9 => 9 | 4 => 4 | 171 => 132 | 0 => 0 | 53 => 23 | 37 => 54 | 5 => 5 | 173 => 135 | 212 => 142 | 51 => 49 | 20 => 20 | 213 => 143 | 46 => 144 | 232 => 149 | 233 => 150 | n => n, fun | 17 => 0 | 18 => 2 | 19 => 3 | n => n⟩
theorem Tryd.laysM173 : Go.Proofs.LaysM.n173 Tryd.prog Tryd.laysM173_ren := {
  mixed := by kernel_rfl
  f129 := Tryd.func89.trans (congrArg some (by kernel_rfl))
  f173 := Tryd.func69.trans (congrArg some (by kernel_rfl))
  f246 := Tryd.func79.trans (congrArg some (by kernel_rfl))
  f283 := Tryd.func80.trans (congrArg some (by kernel_rfl))
  f284 := Tryd.func81.trans (congrArg some (by kernel_rfl))
  f285 := Tryd.func82.trans (congrArg some (by kernel_rfl))
  f286 := Tryd.func83.trans (congrArg some (by kernel_rfl))
  f317 := Tryd.func88.trans (congrArg some (by kernel_rfl))
  f318 := Tryd.func90.trans (congrArg some (by kernel_rfl))
  f319 := Tryd.func91.trans (congrArg some (by kernel_rfl))
  f320 := Tryd.func92.trans (congrArg some (by kernel_rfl))
  f337 := Tryd.func95.trans (congrArg some (by kernel_rfl))
  f338 := Tryd.func96.trans (congrArg some (by kernel_rfl))
  t0 := Tryd.underlying0
  a0 := Tryd.isAgg0
  z0 := Tryd.sizeOf0
  v0 := Tryd.zeroValue0
  t2 := Tryd.underlying2
  a2 := Tryd.isAgg2
  z2 := Tryd.sizeOf2
  v2 := Tryd.zeroValue2
  t3 := Tryd.underlying3
  a3 := Tryd.isAgg3
  z3 := Tryd.sizeOf3
  v3 := Tryd.zeroValue3
  t4 := Tryd.underlying4
  a4 := Tryd.isAgg4
  z4 := Tryd.sizeOf4
  v4 := Tryd.zeroValue4
  t5 := Tryd.underlying5
  a5 := Tryd.isAgg5
  z5 := Tryd.sizeOf5
  v5 := Tryd.zeroValue5
  t9 := Tryd.underlying9
  a9 := Tryd.isAgg9
  z9 := Tryd.sizeOf9
  v9 := Tryd.zeroValue9
  t20 := Tryd.underlying20
  a20 := Tryd.isAgg20
  z20 := Tryd.sizeOf20
  v20 := Tryd.zeroValue20
  t37 := Tryd.underlying54
  a37 := Tryd.isAgg54
  z37 := Tryd.sizeOf54
  v37 := Tryd.zeroValue54
  t46 := Tryd.underlying144
  a46 := Tryd.isAgg144
  z46 := Tryd.sizeOf144
  v46 := Tryd.zeroValue144
  t51 := Tryd.underlying49
  a51 := Tryd.isAgg49
  z51 := Tryd.sizeOf49
  v51 := Tryd.zeroValue49
  t53 := Tryd.underlying23
  a53 := Tryd.isAgg23
  z53 := Tryd.sizeOf23
  v53 := Tryd.zeroValue23
  t171 := Tryd.underlying132
  a171 := Tryd.isAgg132
  z171 := Tryd.sizeOf132
  v171 := Tryd.zeroValue132
  t173 := Tryd.underlying135
  a173 := Tryd.isAgg135
  z173 := Tryd.sizeOf135
  v173 := Tryd.zeroValue135
  t212 := Tryd.underlying142
  a212 := Tryd.isAgg142
  z212 := Tryd.sizeOf142
  v212 := Tryd.zeroValue142
  t213 := Tryd.underlying143
  a213 := Tryd.isAgg143
  z213 := Tryd.sizeOf143
  t232 := Tryd.underlying149
  a232 := Tryd.isAgg149
  z232 := Tryd.sizeOf149
  v232 := Tryd.zeroValue149
  t233 := Tryd.underlying150
  a233 := Tryd.isAgg150
  z233 := Tryd.sizeOf150
  v233 := Tryd.zeroValue150
  g17 := by kernel_rfl
  g18 := by kernel_rfl
  g19 := by kernel_rfl
  i0 := by kernel_rfl
  i2 := by kernel_rfl
  i3 := by kernel_rfl
  i4 := by kernel_rfl
  i5 := by kernel_rfl
  i9 := by kernel_rfl
  i20 := by kernel_rfl
  i37 := by kernel_rfl
  i46 := by kernel_rfl
  i51 := by kernel_rfl
  i53 := by kernel_rfl
  i171 := by kernel_rfl
  i173 := by kernel_rfl
  i212 := by kernel_rfl
  i232 := by kernel_rfl
  i233 := by kernel_rfl
  m17 := by kernel_rfl
  m18 := by kernel_rfl
  m19 := by kernel_rfl }
open Go.RowKit Go.Sort Go.Lib in
theorem Tryd.strconv_FormatInt_10 (n : Int) (h0 : -9223372036854775808 ≤ n) (h1 : n ≤ 9223372036854775807) (w : World) (htab : Lib.TabIs Tryd.prog w "internal/strconv.uint64pow10" .u64 Lib.pow10Tab) :
    Calls Tryd.prog 69 #[.int .i64 n, .int .i64 10] w fun e w' => e = .returned (.string ⟨(Lib.itoa n).toArray⟩) ∧ ∃ k os, w' = grow (w.drewN k) os := Any.strconv_FormatInt_10 Tryd.laysM173 n h0 h1 w htab
def Tryd.laysGw15_ren : Go.Shelf.Ren := ⟨fun | 15 => 87 | 20 => 94 | n => n, fun | 9 => 9 | 23 => 138 | 3 => 3 | 4 => 4 | 0 => 0 | 21 => 21 | n => n, fun | n => n⟩
theorem Tryd.laysGw15 : Go.Proofs.LaysGw.n15 Tryd.prog Tryd.laysGw15_ren := {
  mixed := by kernel_rfl
  f15 := Tryd.func87.trans (congrArg some (by kernel_rfl))
  f20 := Tryd.func94.trans (congrArg some (by kernel_rfl))
  t0 := Tryd.underlying0
  a0 := Tryd.isAgg0
  z0 := Tryd.sizeOf0
  v0 := Tryd.zeroValue0
  i0 := by kernel_rfl
  t3 := Tryd.underlying3
  a3 := Tryd.isAgg3
  z3 := Tryd.sizeOf3
  v3 := Tryd.zeroValue3
  i3 := by kernel_rfl
  t4 := Tryd.underlying4
  a4 := Tryd.isAgg4
  z4 := Tryd.sizeOf4
  v4 := Tryd.zeroValue4
  i4 := by kernel_rfl
  t9 := Tryd.underlying9
  a9 := Tryd.isAgg9
  z9 := Tryd.sizeOf9
  v9 := Tryd.zeroValue9
  i9 := by kernel_rfl
  t21 := Tryd.underlying21
  a21 := Tryd.isAgg21
  z21 := Tryd.sizeOf21
  v21 := Tryd.zeroValue21
  i21 := by kernel_rfl
  t23 := Tryd.underlying138
  a23 := Tryd.isAgg138
  z23 := Tryd.sizeOf138
  v23 := Tryd.zeroValue138
  i23 := by kernel_rfl }
open Go.RowKit Go.Lib in
theorem Tryd.strings_IndexFunc (g : Nat) (lb : Array Value) (eg : ∀ args w, (callFunc g args).run Tryd.prog w = .ok (.enter g args) w) (p : Nat → Bool) (s : ByteArray) (w : World) (hp : PredAt Tryd.prog g lb encR p w) :
    Calls Tryd.prog 87 #[.string s, .func (.func g) #[] lb] w fun e w' => e = .returned (.int .i64 (Lib.idxFunc p true s)) ∧ Below w.heap.size w w' := Any.strings_IndexFunc Tryd.laysGw15 g lb eg p s w hp
end Go.Proofs
namespace Go.Proofs.YtdangmomddpegaaDoor
open Go Go.RowKit Go.Eng Go.Sy
set_option linter.unusedVariables false
set_option linter.unnecessarySimpa false
set_option maxHeartbeats 4000000
set_option maxRecDepth 100000
theorem ag53 : isAg Tryd.prog 53 = some false := by kernel_rfl
theorem ag54 : isAg Tryd.prog 54 = some false := by kernel_rfl
theorem elem5 : elemOk Tryd.prog 5 1 1 = true := by kernel_rfl
theorem mixed : Tryd.prog.follows .mixedOrders = true := by kernel_rfl
theorem off56_0 : fOff Tryd.prog 56 0 = some 0 := by kernel_rfl
theorem off56_1 : fOff Tryd.prog 56 1 = some 1 := by kernel_rfl
theorem ok39 : okF Tryd.prog 39 = some (false, false) := by kernel_rfl
theorem some56 : (Tryd.prog.info? 56).isSome = true := by kernel_rfl
theorem sz53 : szOf Tryd.prog 53 = some 1 := by kernel_rfl
theorem sz54 : szOf Tryd.prog 54 = some 1 := by kernel_rfl
theorem sz56 : szOf Tryd.prog 56 = some 2 := by kernel_rfl
theorem und103 : Tryd.prog.underlying 103 = some (.pointer 5) := by kernel_rfl
theorem und123 : Tryd.prog.underlying 123 = some .unsafePointer := by kernel_rfl
theorem und53 : Tryd.prog.underlying 53 = some (.pointer 56) := by kernel_rfl
theorem und54 : Tryd.prog.underlying 54 = some (.slice 5) := by kernel_rfl
theorem und9 : Tryd.prog.underlying 9 = some .string := by kernel_rfl
theorem zv5 : (Tryd.prog.info? 5).bind (fun i => i.zero) = some (.int .u8 0) := by kernel_rfl
abbrev BldT (T : Nat) : Prop := liesAt Tryd.prog Tryd.prog.depth T (2 / Tryd.prog.cellsOf T) 0 56 1 = true
theorem bEmpty (l : List UInt8) {ao : Option Addr} {cap : Nat} {c : Chunk} (r : Row 5 1 ao l.length cap (l.map u8) c) (h : l = [] → ao = none) : (l = [] ∧ ao = none ∧ cap = 0) ∨ ∃ g, ao = some ⟨g, 0, none⟩ ∧ cap ≠ 0 ∧ l ≠ [] := by
  rcases r.form with ⟨h1, h2, h3, _⟩ | ⟨g, cur, h1, _, h2, _⟩
  · exact .inl ⟨List.eq_nil_of_length_eq_zero h2, h1, h3⟩
  · have hne : l ≠ [] := fun e => by rw [h e] at h1; cases h1
    have : 0 < l.length := List.length_pos_iff.2 hne
    exact .inr ⟨g, h1, by omega, hne⟩
theorem bCopy_spec {b_T b : Nat} {b_l : List UInt8} {b_k : Chunk} {G : GS} {w : World} {F : List Chunk} (h_b_T : BldT b_T) (h_b : BuildD b_T b b_l b_k) (h : Holds G w (b_k :: F)) :
    Calls Tryd.prog 39 #[.pointer (some ⟨b, 0, none⟩)] w (RetO G F fun G v c1 => v = .tuple #[] ∧ BuildS b_T b (b_l) c1) := by
  obtain ⟨p, ao, cap, cr, hp, r, rfl⟩ := h_b
  refine enter (N := 20) (L := [(0, .pointer (some ⟨b, 0, none⟩))]) rfl Tryd.func39 rfl rfl rfl (fun a0 s0 => ?_)
  rcases hp with rfl | rfl
  ·
    have h : Holds _ _ ([(b, .cells #[.pointer none, .slice ao b_l.length cap] b_T (0, 0))] :: cr :: F) := h.split
    refine wp_seq ?_
    refine wp_region_lit ?_
    refine q_of s0 rfl (fun _ k => o_move (s0.ev rfl) k) (fun a1 s2 => ?_)
    refine q_of s2 rfl (fun _ k => o_nil (s2.ev rfl) rfl k) (fun a3 s4 => ?_)
    refine q_of s4 rfl (fun _ k => o_fieldAddr (s4.ev rfl) off56_0 k) (fun a5 s6 => ?_)
    refine q_of s6 rfl (fun _ k => o_loadOne (s6.ev rfl) ag53 ((h.rowI 0 0 (cs := [.pointer none]) (o := 0) rfl rfl rfl) 0 _ rfl) k) (fun a7 s8 => ?_)
    refine q_of s8 rfl (fun _ k => o_bin (s8.ev rfl) (s8.ev rfl) (z := .bool true) (by kernel_rfl) k) (fun a9 s10 => ?_)
    refine wpList_nil ?_
    refine x_then_n ?_
    refine q_ift s10 rfl rfl ?_
    refine wp_region_lit ?_
    refine q_of s10 rfl (fun _ k => o_move (s10.ev rfl) k) (fun a12 s13 => ?_)
    refine q_of s13 rfl (fun _ k => o_move (s13.ev rfl) k) (fun a14 s15 => ?_)
    refine q_of s15 rfl (fun _ k => o_toUnsafe (s15.ev rfl) und53 und123 sz56 rfl (h.shapeI 0 0 rfl rfl) rfl k) (fun a16 s17 => ?_)
    refine q_of s17 rfl (fun _ k => o_noEscape (s17.ev rfl) Tryd.func65 (by kernel_rfl) (by kernel_rfl) (by kernel_rfl) (by kernel_rfl) k) (fun a18 s19 => ?_)
    refine q_of s19 rfl (fun _ k => o_fromUnsafe (s19.ev rfl) und123 und53 some56 (h.shapeI 0 0 rfl rfl) h_b_T k) (fun a20 s21 => ?_)
    refine q_of s21 rfl (fun _ k => o_nil (s21.ev rfl) rfl k) (fun a22 s23 => ?_)
    refine q_of s23 rfl (fun _ k => o_fieldAddr (s23.ev rfl) off56_0 k) (fun a24 s25 => ?_)
    refine q_store s25 rfl rfl sz53 rfl h (j := 0) rfl rfl rfl (cl := [.pointer (some ⟨b, 0, none⟩), .slice ao b_l.length cap]) (by kernel_rfl) (fun a26 w28 s27 h29 => ?_)
    have h29 : Holds _ _ ([(b, .cells #[.pointer (some ⟨b, 0, none⟩), .slice ao b_l.length cap] b_T (0, 0))] :: cr :: F) := h29
    refine wpList_nil ?_
    have h30 : Holds _ _ (cr :: [(b, .cells #[.pointer (some ⟨b, 0, none⟩), .slice ao b_l.length cap] b_T (0, 0))] :: F) := h29.front 1 rfl
    have h31 : Holds _ _ ([(b, .cells #[.pointer (some ⟨b, 0, none⟩), .slice ao b_l.length cap] b_T (0, 0))] :: cr :: F) := h30.front 1 rfl
    exact fin0n s27 rfl ⟨_, _, _, rfl, (GS.Le.refl _), h31.join, rfl, ⟨_, _, _, _, rfl, r, rfl⟩⟩
  ·
    have h : Holds _ _ ([(b, .cells #[.pointer (some ⟨b, 0, none⟩), .slice ao b_l.length cap] b_T (0, 0))] :: cr :: F) := h.split
    refine wp_seq ?_
    refine wp_region_lit ?_
    refine q_of s0 rfl (fun _ k => o_move (s0.ev rfl) k) (fun a32 s33 => ?_)
    refine q_of s33 rfl (fun _ k => o_nil (s33.ev rfl) rfl k) (fun a34 s35 => ?_)
    refine q_of s35 rfl (fun _ k => o_fieldAddr (s35.ev rfl) off56_0 k) (fun a36 s37 => ?_)
    refine q_of s37 rfl (fun _ k => o_loadOne (s37.ev rfl) ag53 ((h.rowI 0 0 (cs := [.pointer (some ⟨b, 0, none⟩)]) (o := 0) rfl rfl rfl) 0 _ rfl) k) (fun a38 s39 => ?_)
    refine q_of s39 rfl (fun _ k => o_bin (s39.ev rfl) (s39.ev rfl) (z := .bool false) (by kernel_rfl) k) (fun a40 s41 => ?_)
    refine wpList_nil ?_
    refine x_then_n ?_
    refine q_iff s41 rfl rfl ?_
    refine wp_seq ?_
    refine wp_region_lit ?_
    refine q_of s41 rfl (fun _ k => o_move (s41.ev rfl) k) (fun a43 s44 => ?_)
    refine q_of s44 rfl (fun _ k => o_nil (s44.ev rfl) rfl k) (fun a45 s46 => ?_)
    refine q_of s46 rfl (fun _ k => o_fieldAddr (s46.ev rfl) off56_0 k) (fun a47 s48 => ?_)
    refine q_of s48 rfl (fun _ k => o_loadOne (s48.ev rfl) ag53 ((h.rowI 0 0 (cs := [.pointer (some ⟨b, 0, none⟩)]) (o := 0) rfl rfl rfl) 0 _ rfl) k) (fun a49 s50 => ?_)
    refine q_of s50 rfl (fun _ k => o_move (s50.ev rfl) k) (fun a51 s52 => ?_)
    refine q_of s52 rfl (fun _ k => o_pneqSelf (s52.ev rfl) (s52.ev rfl) und53 sz56 rfl k) (fun a53 s54 => ?_)
    refine wpList_nil ?_
    refine x_then_n ?_
    refine q_iff s54 rfl rfl ?_
    refine wp_skip ?_
    have h56 : Holds _ _ (cr :: [(b, .cells #[.pointer (some ⟨b, 0, none⟩), .slice ao b_l.length cap] b_T (0, 0))] :: F) := h.front 1 rfl
    have h57 : Holds _ _ ([(b, .cells #[.pointer (some ⟨b, 0, none⟩), .slice ao b_l.length cap] b_T (0, 0))] :: cr :: F) := h56.front 1 rfl
    exact fin0n s54 rfl ⟨_, _, _, rfl, (GS.Le.refl _), h57.join, rfl, ⟨_, _, _, _, rfl, r, rfl⟩⟩
theorem bStr_spec {b_T b : Nat} {b_l : List UInt8} {b_k : Chunk} (t : List UInt8) {G : GS} {w : World} {F : List Chunk} (h_b_T : BldT b_T) (h_b : BuildD b_T b b_l b_k) (hl : b_l.length + t.length ≤ 140737488355328) (h : Holds G w (b_k :: F)) :
    Calls Tryd.prog 17 #[.pointer (some ⟨b, 0, none⟩), S t] w (RetO G F fun G v c1 => v = .tuple #[.int .i64 (t.length : Int), .nilIface] ∧ BuildS b_T b (b_l ++ t) c1) := by
  refine enter (N := 19) (L := [(0, .pointer (some ⟨b, 0, none⟩)), (1, S t)]) rfl Tryd.func17 rfl rfl rfl (fun a0 s0 => ?_)
  refine wp_seq ?_
  refine wp_region_lit ?_
  refine q_of s0 rfl (fun _ k => o_assign (s0.ev rfl) k) (fun a1 s2 => ?_)
  refine q_of s2 rfl (fun _ k => o_assign (s2.ev rfl) k) (fun a3 s4 => ?_)
  refine wpList_nil ?_
  refine x_then_n ?_
  refine wp_seq ?_
  refine wp_region_lit ?_
  refine q_of s4 rfl (fun _ k => o_move (s4.ev rfl) k) (fun a5 s6 => ?_)
  refine q_callO s6 rfl ok39 rfl (bCopy_spec h_b_T h_b h) (fun a7 w9 v14 G11 c16 hs15 h10 hv13 s8 => ?_)
  obtain ⟨v14e, hb17⟩ := hv13
  subst v14e
  have hG12 := (GS.Le.refl _).trans hs15
  refine wpList_nil ?_
  refine x_then_n ?_
  refine wp_seq ?_
  refine wp_region_lit ?_
  obtain ⟨p18, ao19, cap20, cr21, hp22, r23, rfl⟩ := hb17
  have h25 : Holds _ _ ([(b, .cells #[p18, .slice ao19 b_l.length cap20] b_T (0, 0))] :: cr21 :: F) := h10.split
  refine q_of s8 rfl (fun _ k => o_move (s8.ev rfl) k) (fun a26 s27 => ?_)
  refine q_of s27 rfl (fun _ k => o_move (s27.ev rfl) k) (fun a28 s29 => ?_)
  refine q_of s29 rfl (fun _ k => o_nil (s29.ev rfl) rfl k) (fun a30 s31 => ?_)
  refine q_of s31 rfl (fun _ k => o_fieldAddr (s31.ev rfl) off56_1 k) (fun a32 s33 => ?_)
  refine q_of s33 rfl (fun _ k => o_loadOne (s33.ev rfl) ag54 ((h25.rowI 0 0 (cs := [.slice ao19 b_l.length cap20]) (o := 1) rfl rfl rfl) 0 _ rfl) k) (fun a34 s35 => ?_)
  refine q_of s35 rfl (fun _ k => o_move (s35.ev rfl) k) (fun a36 s37 => ?_)
  have h38 : Holds _ _ (cr21 :: [(b, .cells #[p18, .slice ao19 b_l.length cap20] b_T (0, 0))] :: F) := h25.front 1 rfl
  refine q_appendS s37 rfl r23 h38 rfl rfl und54 und9 elem5 zv5 (by omega) (fun a39 w41 ao43 cap44 c45 s40 r46 h42 hn47 => ?_)
  refine q_of s40 rfl (fun _ k => o_nil (s40.ev rfl) rfl k) (fun a48 s49 => ?_)
  refine q_of s49 rfl (fun _ k => o_fieldAddr (s49.ev rfl) off56_1 k) (fun a50 s51 => ?_)
  have h52 : Holds _ _ ([(b, .cells #[p18, .slice ao19 b_l.length cap20] b_T (0, 0))] :: c45 :: F) := h42.front 1 rfl
  refine q_store s51 rfl rfl sz54 rfl h52 (j := 0) rfl rfl rfl (cl := [p18, .slice ao43 (b_l.length + t.length) cap44]) (by kernel_rfl) (fun a53 w55 s54 h56 => ?_)
  have h56 : Holds _ _ ([(b, .cells #[p18, .slice ao43 (b_l.length + t.length) cap44] b_T (0, 0))] :: c45 :: F) := h56
  refine wpList_nil ?_
  refine x_then_n ?_
  refine wp_seq ?_
  refine wp_region_lit ?_
  refine q_of s54 rfl (fun _ k => o_move (s54.ev rfl) k) (fun a57 s58 => ?_)
  refine q_of s58 rfl (fun _ k => o_slen (s58.ev rfl) und9 k) (fun a59 s60 => ?_)
  refine q_of s60 rfl (fun _ k => o_assign (s60.ev rfl) k) (fun a61 s62 => ?_)
  refine q_of s62 rfl (fun _ k => o_assign (s62.ev rfl) k) (fun a63 s64 => ?_)
  refine wpList_nil ?_
  refine x_then_n ?_
  refine wp_ret ?_
  have h65 : Holds _ _ (c45 :: [(b, .cells #[p18, .slice ao43 (b_l.length + t.length) cap44] b_T (0, 0))] :: F) := h56.front 1 rfl
  have h66 : Holds _ _ ([(b, .cells #[p18, .slice ao43 (b_l.length + t.length) cap44] b_T (0, 0))] :: c45 :: F) := h65.front 1 rfl
  rw [show b_l.length + t.length = (b_l ++ t).length from (List.length_append ..).symm] at h66 r46
  rw [← List.map_append] at r46
  exact fin2 s64 rfl rfl rfl ⟨_, _, _, rfl, hG12, h66.join, rfl, ⟨_, _, _, _, hp22, r46, rfl⟩⟩
theorem bGet_spec {b_T b : Nat} {b_l : List UInt8} {b_k : Chunk} {G : GS} {w : World} {F : List Chunk} (h_b_T : BldT b_T) (h_b : BuildC b_T b b_l b_k) (h : Holds G w (b_k :: F)) :
    Calls Tryd.prog 21 #[.pointer (some ⟨b, 0, none⟩)] w (Ret G F fun G v => v = S b_l) := by
  obtain ⟨p, ao, cap, cr, hp, r, hao, rfl⟩ := h_b
  refine enter (N := 14) (L := [(0, .pointer (some ⟨b, 0, none⟩))]) rfl Tryd.func21 rfl rfl rfl (fun a0 s0 => ?_)
  rcases bEmpty b_l r hao with ⟨rfl, rfl, rfl⟩ | ⟨g0, rfl, hc, hne⟩
  ·
    have h : Holds _ _ ([(b, .cells #[p, .slice none 0 0] b_T (0, 0))] :: cr :: F) := h.split
    refine wp_seq ?_
    refine wp_region_lit ?_
    refine q_of s0 rfl (fun _ k => o_assign (s0.ev rfl) k) (fun a1 s2 => ?_)
    refine wpList_nil ?_
    refine x_then_n ?_
    refine wp_seq ?_
    have hok : okX 14 [(0, .pointer (some ⟨b, 0, none⟩))] [(some 3, Fact.eq (.pointer (some ⟨b, 0, none⟩))), (some 4, Fact.eq (.pointer (some ⟨b, 0, none⟩))), (some 5, Fact.eq (.pointer (some ⟨b, 1, none⟩))), (some 6, Fact.eq (.slice none 0 0)), (some 7, Fact.eq (.pointer none)), (some 8, Fact.eq (.pointer (some ⟨b, 0, none⟩))), (some 9, Fact.eq (.pointer (some ⟨b, 0, none⟩))), (some 10, Fact.eq (.pointer (some ⟨b, 1, none⟩))), (some 11, Fact.eq (.slice none 0 0)), (some 12, Fact.eq (.int .i64 0)), (some 13, Fact.eq (S [])), (some 2, Fact.eq (S []))] [] = true := rfl
    refine region_draw (N := 14) (L0 := [(0, .pointer (some ⟨b, 0, none⟩))]) (X := [(some 3, Fact.eq (.pointer (some ⟨b, 0, none⟩))), (some 4, Fact.eq (.pointer (some ⟨b, 0, none⟩))), (some 5, Fact.eq (.pointer (some ⟨b, 1, none⟩))), (some 6, Fact.eq (.slice none 0 0)), (some 7, Fact.eq (.pointer none)), (some 8, Fact.eq (.pointer (some ⟨b, 0, none⟩))), (some 9, Fact.eq (.pointer (some ⟨b, 0, none⟩))), (some 10, Fact.eq (.pointer (some ⟨b, 1, none⟩))), (some 11, Fact.eq (.slice none 0 0)), (some 12, Fact.eq (.int .i64 0)), (some 13, Fact.eq (S [])), (some 2, Fact.eq (S []))]) (O := []) (HR := fun D a _ H => H = ([(b, .cells #[p, .slice none 0 0] b_T (0, 0))] :: cr :: F)) mixed rfl h rfl (s2.sub (all_cons rfl (all_nil))) (fun i k t v hi => by simp at hi) ⟨?_, ?_, ?_, ?_, ?_, ?_, ?_, ?_, ?_, ?_, ?_, ?_, trivial⟩ (fun D a w G H hall j => ?_)
    · exact step_of rfl (fun D a w G H hR j => by (have s := j.sf ; exact o_move (s.ev rfl) (j.did hok rfl (GS.Le.refl _) j.holds j.hr rfl)))
    · exact step_of rfl (fun D a w G H hR j => by (have s := (j.sf.know _ _ (j.gotE 0 rfl (hR.was rfl 0 rfl))) ; exact o_nil (s.ev rfl) rfl (j.did hok rfl (GS.Le.refl _) j.holds j.hr rfl)))
    · exact step_of rfl (fun D a w G H hR j => by (have s := (j.sf.know _ _ (j.gotE 1 rfl (hR.was rfl 1 rfl))) ; exact o_fieldAddr (s.ev rfl) off56_1 (j.did hok rfl (GS.Le.refl _) j.holds j.hr rfl)))
    · exact step_of rfl (fun D a w G H hR j => by (have hH := j.hr ; subst H ; have s := (j.sf.know _ _ (j.gotE 2 rfl (hR.was rfl 2 rfl))) ; exact o_loadOne (s.ev rfl) ag54 ((j.holds.rowI 0 0 (cs := [.slice none 0 0]) (o := 1) rfl rfl rfl) 0 _ rfl) (j.did hok rfl (GS.Le.refl _) j.holds j.hr rfl)))
    · exact step_of rfl (fun D a w G H hR j => by (have s := (j.sf.know _ _ (j.gotE 3 rfl (hR.was rfl 3 rfl))) ; exact o_sliceData0 (s.ev rfl) (j.did hok rfl (GS.Le.refl _) j.holds j.hr rfl)))
    · exact step_of rfl (fun D a w G H hR j => by (have s := j.sf ; exact o_move (s.ev rfl) (j.did hok rfl (GS.Le.refl _) j.holds j.hr rfl)))
    · exact step_of rfl (fun D a w G H hR j => by (have s := (j.sf.know _ _ (j.gotE 5 rfl (hR.was rfl 5 rfl))) ; exact o_nil (s.ev rfl) rfl (j.did hok rfl (GS.Le.refl _) j.holds j.hr rfl)))
    · exact step_of rfl (fun D a w G H hR j => by (have s := (j.sf.know _ _ (j.gotE 6 rfl (hR.was rfl 6 rfl))) ; exact o_fieldAddr (s.ev rfl) off56_1 (j.did hok rfl (GS.Le.refl _) j.holds j.hr rfl)))
    · exact step_of rfl (fun D a w G H hR j => by (have hH := j.hr ; subst H ; have s := (j.sf.know _ _ (j.gotE 7 rfl (hR.was rfl 7 rfl))) ; exact o_loadOne (s.ev rfl) ag54 ((j.holds.rowI 0 0 (cs := [.slice none 0 0]) (o := 1) rfl rfl rfl) 0 _ rfl) (j.did hok rfl (GS.Le.refl _) j.holds j.hr rfl)))
    · exact step_of rfl (fun D a w G H hR j => by (have s := (j.sf.know _ _ (j.gotE 8 rfl (hR.was rfl 8 rfl))) ; exact o_len (s.ev rfl) und54 (j.did hok rfl (GS.Le.refl _) j.holds j.hr rfl)))
    · exact step_of rfl (fun D a w G H hR j => by (have s := ((j.sf.know _ _ (j.gotE 4 rfl (hR.was rfl 4 rfl))).know _ _ (j.gotE 9 rfl (hR.was rfl 9 rfl))) ; exact o_unsafeString0 (s.ev rfl) (s.ev rfl) (j.did hok rfl (GS.Le.refl _) j.holds j.hr rfl)))
    · exact step_of rfl (fun D a w G H hR j => by (have s := (j.sf.know _ _ (j.gotE 10 rfl (hR.was rfl 10 rfl))) ; exact o_assign (s.ev rfl) (j.did hok rfl (GS.Le.refl _) j.holds j.hr rfl)))
    have s4 := (j.sf.know _ _ (j.gotE 11 rfl (hall 11 (by decide))))
    have hH := j.hr
    subst H
    have hle10 := j.le
    have hG8 := (GS.Le.refl _).trans hle10
    have h9 : Holds _ _ ([(b, .cells #[p, .slice none 0 0] b_T (0, 0))] :: cr :: F) := j.holds
    clear j hall hok
    refine x_then_n ?_
    refine wp_ret ?_
    refine fin1 s4 rfl rfl ⟨_, _, rfl, hG8, h9.drop.drop, ?_⟩
    rfl
  ·
    have h : Holds _ _ ([(b, .cells #[p, .slice (some ⟨g0, 0, none⟩) b_l.length cap] b_T (0, 0))] :: cr :: F) := h.split
    refine wp_seq ?_
    refine wp_region_lit ?_
    refine q_of s0 rfl (fun _ k => o_assign (s0.ev rfl) k) (fun a11 s12 => ?_)
    refine wpList_nil ?_
    refine x_then_n ?_
    refine wp_seq ?_
    have hok : okX 14 [(0, .pointer (some ⟨b, 0, none⟩))] [(some 3, Fact.eq (.pointer (some ⟨b, 0, none⟩))), (some 4, Fact.eq (.pointer (some ⟨b, 0, none⟩))), (some 5, Fact.eq (.pointer (some ⟨b, 1, none⟩))), (some 6, Fact.eq (.slice (some ⟨g0, 0, none⟩) b_l.length cap)), (some 7, Fact.eq (.pointer (some ⟨g0, 0, none⟩))), (some 8, Fact.eq (.pointer (some ⟨b, 0, none⟩))), (some 9, Fact.eq (.pointer (some ⟨b, 0, none⟩))), (some 10, Fact.eq (.pointer (some ⟨b, 1, none⟩))), (some 11, Fact.eq (.slice (some ⟨g0, 0, none⟩) b_l.length cap)), (some 12, Fact.eq (.int .i64 (b_l.length : Int))), (some 13, Fact.eq (S b_l)), (some 2, Fact.eq (S b_l))] [] = true := rfl
    refine region_draw (N := 14) (L0 := [(0, .pointer (some ⟨b, 0, none⟩))]) (X := [(some 3, Fact.eq (.pointer (some ⟨b, 0, none⟩))), (some 4, Fact.eq (.pointer (some ⟨b, 0, none⟩))), (some 5, Fact.eq (.pointer (some ⟨b, 1, none⟩))), (some 6, Fact.eq (.slice (some ⟨g0, 0, none⟩) b_l.length cap)), (some 7, Fact.eq (.pointer (some ⟨g0, 0, none⟩))), (some 8, Fact.eq (.pointer (some ⟨b, 0, none⟩))), (some 9, Fact.eq (.pointer (some ⟨b, 0, none⟩))), (some 10, Fact.eq (.pointer (some ⟨b, 1, none⟩))), (some 11, Fact.eq (.slice (some ⟨g0, 0, none⟩) b_l.length cap)), (some 12, Fact.eq (.int .i64 (b_l.length : Int))), (some 13, Fact.eq (S b_l)), (some 2, Fact.eq (S b_l))]) (O := []) (HR := fun D a _ H => H = ((bif D 10 then F else ([(b, .cells #[p, .slice (some ⟨g0, 0, none⟩) b_l.length cap] b_T (0, 0))] :: cr :: F)))) mixed rfl h rfl (s12.sub (all_cons rfl (all_nil))) (fun i k t v hi => by simp at hi) ⟨?_, ?_, ?_, ?_, ?_, ?_, ?_, ?_, ?_, ?_, ?_, ?_, trivial⟩ (fun D a w G H hall j => ?_)
    · exact step_of rfl (fun D a w G H hR j => by (have s := j.sf ; exact o_move (s.ev rfl) (j.did hok rfl (GS.Le.refl _) j.holds j.hr rfl)))
    · exact step_of rfl (fun D a w G H hR j => by (have s := (j.sf.know _ _ (j.gotE 0 rfl (hR.was rfl 0 rfl))) ; exact o_nil (s.ev rfl) rfl (j.did hok rfl (GS.Le.refl _) j.holds j.hr rfl)))
    · exact step_of rfl (fun D a w G H hR j => by (have s := (j.sf.know _ _ (j.gotE 1 rfl (hR.was rfl 1 rfl))) ; exact o_fieldAddr (s.ev rfl) off56_1 (j.did hok rfl (GS.Le.refl _) j.holds j.hr rfl)))
    · exact step_of rfl (fun D a w G H hR j => by (have he10 : D 10 = false := (hR.not (k := 10) (j := 4) rfl rfl (hR.not (k := 4) (j := 3) rfl rfl hR.todo)) ; have hH := j.hr ; simp only [he10, cond_true, cond_false] at hH ; subst H ; have s := (j.sf.know _ _ (j.gotE 2 rfl (hR.was rfl 2 rfl))) ; exact o_loadOne (s.ev rfl) ag54 ((j.holds.rowI 0 0 (cs := [.slice (some ⟨g0, 0, none⟩) b_l.length cap]) (o := 1) rfl rfl rfl) 0 _ rfl) (j.did hok rfl (GS.Le.refl _) j.holds j.hr rfl)))
    · exact step_of rfl (fun D a w G H hR j => by (have s := (j.sf.know _ _ (j.gotE 3 rfl (hR.was rfl 3 rfl))) ; exact o_sliceData (s.ev rfl) (by omega) (j.did hok rfl (GS.Le.refl _) j.holds j.hr rfl)))
    · exact step_of rfl (fun D a w G H hR j => by (have s := j.sf ; exact o_move (s.ev rfl) (j.did hok rfl (GS.Le.refl _) j.holds j.hr rfl)))
    · exact step_of rfl (fun D a w G H hR j => by (have s := (j.sf.know _ _ (j.gotE 5 rfl (hR.was rfl 5 rfl))) ; exact o_nil (s.ev rfl) rfl (j.did hok rfl (GS.Le.refl _) j.holds j.hr rfl)))
    · exact step_of rfl (fun D a w G H hR j => by (have s := (j.sf.know _ _ (j.gotE 6 rfl (hR.was rfl 6 rfl))) ; exact o_fieldAddr (s.ev rfl) off56_1 (j.did hok rfl (GS.Le.refl _) j.holds j.hr rfl)))
    · exact step_of rfl (fun D a w G H hR j => by (have he10 : D 10 = false := (hR.not (k := 10) (j := 9) rfl rfl (hR.not (k := 9) (j := 8) rfl rfl hR.todo)) ; have hH := j.hr ; simp only [he10, cond_true, cond_false] at hH ; subst H ; have s := (j.sf.know _ _ (j.gotE 7 rfl (hR.was rfl 7 rfl))) ; exact o_loadOne (s.ev rfl) ag54 ((j.holds.rowI 0 0 (cs := [.slice (some ⟨g0, 0, none⟩) b_l.length cap]) (o := 1) rfl rfl rfl) 0 _ rfl) (j.did hok rfl (GS.Le.refl _) j.holds j.hr rfl)))
    · exact step_of rfl (fun D a w G H hR j => by (have s := (j.sf.know _ _ (j.gotE 8 rfl (hR.was rfl 8 rfl))) ; exact o_len (s.ev rfl) und54 (j.did hok rfl (GS.Le.refl _) j.holds j.hr rfl)))
    · exact step_of rfl (fun D a w G H hR j => by (have hH := j.hr ; simp only [cond_true, cond_false, hR.todo] at hH ; subst H ; have s := ((j.sf.know _ _ (j.gotE 4 rfl (hR.was rfl 4 rfl))).know _ _ (j.gotE 9 rfl (hR.was rfl 9 rfl))) ; exact o_unsafeString (j.holds.front 1 rfl).dropsnd r (s.ev rfl) (s.ev rfl) rfl und103 (by kernel_rfl) hne (fun w' hh => j.did hok rfl (GS.Le.refl _) (show Holds _ _ F from hh) (by simp only [setD_self, cond_true, cond_false, vblk_ptr, vblk_slice, put_none, getD_put_self (show 13 < a.tmps.size by rw [j.sf.size] ; decide)]) rfl)))
    · exact step_of rfl (fun D a w G H hR j => by (have s := (j.sf.know _ _ (j.gotE 10 rfl (hR.was rfl 10 rfl))) ; exact o_assign (s.ev rfl) (j.did hok rfl (GS.Le.refl _) j.holds j.hr rfl)))
    have s14 := (j.sf.know _ _ (j.gotE 11 rfl (hall 11 (by decide))))
    have hH := j.hr
    simp only [hall 10 (by decide), cond_true] at hH
    subst H
    have hle20 := j.le
    have hG18 := (GS.Le.refl _).trans hle20
    have h19 : Holds _ _ (F) := j.holds
    clear j hall hok
    refine x_then_n ?_
    refine wp_ret ?_
    refine fin1 s14 rfl rfl ⟨_, _, rfl, hG18, h19, ?_⟩
    rfl
theorem bld_Ts : ∀ Ty ∈ [56], BldT Ty := by
  intro Ty h
  simp only [List.mem_cons, List.not_mem_nil, or_false] at h
  rcases h with rfl <;> (unfold BldT ; kernel_rfl)
theorem na_write : NatE Tryd.prog 17 1 (spWrite [56]) := natE_write bld_Ts fun Ty b l c t G w F hT hb hl hh => bStr_spec t hT hb hl hh
theorem na_get : NatE Tryd.prog 21 0 (spGet [56]) := natE_get bld_Ts fun Ty b l c G w F hT hb hh => bGet_spec hT hb hh
theorem tabAt : Tryd.prog.globalNamed "internal/strconv.uint64pow10" = some 0 := by kernel_rfl
theorem itoa_all (z : Int) (G : GS) (w : World) (F : List Chunk) (hz : InR 0 z) (t : Tied G.M) (h : Holds G w F) : Calls Tryd.prog 40 #[.int .i64 z] w (Ret G F fun _ v => v = S (Lib.itoa z)) :=
  (Tryd.strconv_Itoa z hz.1 hz.2 w ((Tied.gvar tabAt t).var h)).mono fun _ _ ⟨he, k, os, hw⟩ => ⟨_, G, he, GS.Le.refl G, h.ext (hw ▸ below_growN w k os), rfl⟩
theorem na_itoa : NatE Tryd.prog 40 0 (spN1 0 Lib.itoa) := natE_N1 fun z G w F hz t h => itoa_all z G w F hz t h
theorem na_itoaL : NatE Tryd.prog 40 0 (spNL 0 100000000000000000000 tl0) := natE_NL (by decide) (ts := []) tl0_ok fun n G w F _ hz t h => by
  rw [← itoa_nat]
  exact itoa_all n G w F hz t h
theorem na_small : NatE Tryd.prog 80 0 (spNL 0 100 tl0) := natE_NL (by decide) (ts := []) tl0_ok fun n G w F hn hz t h => (Tryd.internal_strconv_small n hn w).mono fun _ _ ⟨he, hw⟩ => ⟨_, G, he, GS.Le.refl G, hw ▸ h, rfl⟩
theorem na_fmt : NatE Tryd.prog 69 0 (spN2 0 10 Lib.itoa) := natE_N2 fun z G w F hz t h =>
  (Tryd.strconv_FormatInt_10 z hz.1 hz.2 w ((Tied.gvar tabAt t).var h)).mono fun _ _ ⟨he, k, os, hw⟩ => ⟨_, G, he, GS.Le.refl G, h.ext (hw ▸ below_growN w k os), rfl⟩
theorem na_join : NatE Tryd.prog 45 0 spJoin := natE_join (fun bk o c ws sep w hc hb h1 h2 h3 => by
    have e1 : (ws.map fun x => (⟨x.toArray⟩ : ByteArray)).map (fun b => b.data.toList) = ws := by simp [Function.comp_def]
    have hj := Tryd.strings_Join bk o c (ws.map fun x => (⟨x.toArray⟩ : ByteArray)) ⟨sep.toArray⟩ w (fun j x hx => by
      rw [List.getElem?_map, Option.map_eq_some_iff] at hx
      obtain ⟨y, hy, rfl⟩ := hx
      exact hc j y hy) hb (by simpa using h1) (by simpa using h2) (by rw [e1]; exact h3)
    rw [e1, List.length_map] at hj
    exact hj.mono fun _ _ ⟨he, hw⟩ => ⟨he, hw⟩) (fun a c sep w => (Tryd.strings_Join_none a c ⟨sep.toArray⟩ w).mono fun _ _ ⟨he, hw⟩ => ⟨he, hw ▸ Below.refl w.heap.size w⟩)
end Go.Proofs.YtdangmomddpegaaDoor
namespace Go.Proofs.YtdangmomddpegaaDoor
open Go Go.RowKit Go.Lib Go.Shelf Go.Proofs Go.Sort
set_option maxRecDepth 100000
theorem fmtU (u : Nat) (h0 : 100 ≤ u) (hu64 : u < 18446744073709551616) (w : World) (htab : Lib.TabIs Tryd.prog w "internal/strconv.uint64pow10" .u64 Lib.pow10Tab) :
    Calls Tryd.prog 67 #[.int .u64 u, .int .i64 10] w fun e w' => e = .returned (.string ⟨(Lib.decDigits u).toArray⟩) ∧ ∃ k os, w' = grow (w.drewN k) os := by
  have mixed : Tryd.prog.follows .mixedOrders = true := by kernel_rfl
  have hu1 : 1 ≤ u := by omega
  have hnd20 : Lib.nDigits u ≤ 20 := by have := Lib.numDigits_eq u hu1 hu64; split at this <;> omega
  have hb3 : Lib.nDigits u ≤ 24 := by omega
  have hal : Tryd.prog.arrayLen 132 = 24 := by simp [Program.arrayLen, Tryd.underlying132]
  have hsl1 : ∀ W, (Instr.sliceAt 132 (.pointer (some ⟨w.heap.size, 0, none⟩)) none (some (.int .i64 (Lib.nDigits u : Int))) none).run Tryd.prog W = .ok (.slice (some ⟨w.heap.size, 0, none⟩) (Lib.nDigits u) 24) W := fun W => by
    rw [run_sliceAt_array_h W 132 ⟨w.heap.size, 0, none⟩ (by simp [Program.arrayLen, Program.elem, Tryd.underlying132]) .i64 (Lib.nDigits u : Int) (by omega) (by rw [hal]; omega)]
    go_simp
  have hH0 := Lib.holds_zero0 w 132 (Lib.nDigits u) (by omega)
  have hfmt := Tryd.internal_strconv_formatBase10 w.heap.size 0 24 u (Array.replicate (Lib.nDigits u) 0) (w.alloc (.cells Lib.zeros24 132)) hH0 (by rw [Array.size_replicate]; exact Lib.lt_pow_nDigits u) hu64 (by rw [Array.size_replicate]; omega)
  rw [Array.size_replicate] at hfmt
  have HH0 := Lib.hid hH0
  clear hH0 hal
  go_enter Tryd.func67, Tryd.ntmps67
  go_wp2_with (fail)
  refine (Tryd.internal_strconv_numDigits u hu1 hu64 _ (Lib.tabIs_alloc htab _)).mono ?_
  rintro e w' ⟨rfl, rfl⟩
  go_wp2_with (fail)
  refine hfmt.mono ?_
  rintro e w' ⟨rfl, k, v', dk, rfl, hF⟩
  have hcv : (convert 54 9 (.slice (some ⟨w.heap.size, 0, none⟩) (Lib.nDigits u) 24)).run Tryd.prog ((putRow (fun (b : UInt8) => Value.int .u8 (b.toNat : Int)) (w.alloc (.cells Lib.zeros24 132)) w.heap.size 0 dk).drewN k) = .ok (.string ⟨(Lib.decDigits u).toArray⟩) ((putRow (fun (b : UInt8) => Value.int .u8 (b.toNat : Int)) (w.alloc (.cells Lib.zeros24 132)) w.heap.size 0 dk).drewN k) := by
    have h := run_convert_bytes_back (P := Tryd.prog) ((putRow (fun (b : UInt8) => Value.int .u8 (b.toNat : Int)) (w.alloc (.cells Lib.zeros24 132)) w.heap.size 0 dk).drewN k) 54 9 5 ⟨w.heap.size, 0, none⟩ 24 (Lib.decDigits u) Tryd.underlying54 Tryd.underlying5 Tryd.underlying9 (fun j hj => by
      rw [Lib.row_is_numeral hF j hj, Lib.add_plain, World.cell?_drewN]
      exact cell?_putRow (fun (b : UInt8) => Value.int .u8 (b.toNat : Int)) _ w.heap.size 0 _ dk HH0.out (by rw [hF.size, Array.size_replicate]) j (by rw [hF.size]; rw [Lib.decDigits_length] at hj; exact hj))
    rw [Lib.decDigits_length] at h
    exact h
  go_wp2
  go_ret
  obtain ⟨os, eo⟩ := Lib.fin_at w (.cells Lib.zeros24 132) dk k 0
  exact ⟨rfl, k, os, eo⟩
theorem fmtU_small (i : Nat) (hi : i < 100) (w : World) :
    Calls Tryd.prog 67 #[.int .u64 i, .int .i64 10] w fun e w' => e = .returned (.string ⟨(Lib.decDigits i).toArray⟩) ∧ ∃ k os, w' = grow (w.drewN k) os := by
  have mixed : Tryd.prog.follows .mixedOrders = true := by kernel_rfl
  have hw : IntKind.i64.wrap (i : Int) = (i : Int) := by rw [IntKind.wrap_i64]; omega
  go_enter Tryd.func67, Tryd.ntmps67
  go_wp2_with (fail)
  refine (Tryd.internal_strconv_small i hi _).mono ?_
  rintro e w' ⟨rfl, rfl⟩
  go_wp2_with (fail)
  go_ret
  exact ⟨rfl, 0, #[], by simp [World.drewN_zero]⟩
theorem fmtU_all (z : Int) (h0 : 0 ≤ z) (h1 : z ≤ 18446744073709551615) (w : World) (htab : Lib.TabIs Tryd.prog w "internal/strconv.uint64pow10" .u64 Lib.pow10Tab) :
    Calls Tryd.prog 67 #[.int .u64 z, .int .i64 10] w fun e w' => e = .returned (.string ⟨(Lib.itoa z).toArray⟩) ∧ ∃ k os, w' = grow (w.drewN k) os := by
  obtain ⟨u, rfl⟩ : ∃ u : Nat, z = u := ⟨z.toNat, by omega⟩
  rw [Lib.itoa_nonneg]
  rcases Nat.lt_or_ge u 100 with h | h
  · exact fmtU_small u h w
  · exact fmtU u h (by omega) w htab
end Go.Proofs.YtdangmomddpegaaDoor
namespace Go.Proofs.YtdangmomddpegaaDoor
open Go Go.RowKit Go.Eng
set_option linter.unusedVariables false
set_option linter.unnecessarySimpa false
set_option maxHeartbeats 4000000
set_option maxRecDepth 100000
theorem ok47 : okF Tryd.prog 47 = some (false, false) := by kernel_rfl
theorem und23 : Tryd.prog.underlying 23 = some (.int .u64) := by kernel_rfl
theorem und5 : Tryd.prog.underlying 5 = some (.int .u8) := by kernel_rfl
theorem itoaU (n : Int) (h0 : 0 ≤ n) (h1 : n ≤ 18446744073709551615) : (Lib.itoa n).length ≤ 42 := by
  rcases Int.lt_or_le n 10 with h | h
  · rw [itoa_small n h0 h]; simp
  · rw [itoa_step n h, List.length_append]
    have a := Lib.itoa_length_le (n / 10) (by omega) (by omega)
    have b := Lib.itoa_length_le (n % 10) (by omega) (by omega)
    omega
theorem dig_spec_aux : ∀ (m0 : Nat) (n : Int) {G : GS} {w : World} {F : List Chunk} (hm0 : n.toNat < m0) (h_n : 0 ≤ n ∧ n ≤ 18446744073709551615) (h : Holds G w F),
    Calls Tryd.prog 47 #[.int .u64 n] w (Ret G F fun G v => v = S (Lib.itoa n)) := by
  intro m0
  induction m0 with
  | zero => intro n G w F hm0; omega
  | succ m0 ih =>
  intro n G w F hm0 h_n h
  refine enter (N := 17) (L := [(0, .int .u64 n)]) rfl Tryd.func47 rfl rfl rfl (fun a0 s0 => ?_)
  refine wp_seq ?_
  refine wp_region_lit ?_
  refine q_of s0 rfl (fun _ k => o_assign (s0.ev rfl) k) (fun a1 s2 => ?_)
  refine wpList_nil ?_
  refine x_then_n ?_
  refine wp_seq ?_
  refine wp_seq ?_
  refine wp_region_lit ?_
  refine q_of s2 rfl (fun _ k => o_move (s2.ev rfl) k) (fun a3 s4 => ?_)
  refine q_of s4 rfl (fun _ k => o_lss (s4.ev rfl) (s4.ev rfl) k) (fun a5 s6 => ?_)
  refine wpList_nil ?_
  refine x_then_n ?_
  refine q_ifd s6 rfl (fun hc7 => ?_) (fun hc7 => ?_)
  ·
    refine wp_seq ?_
    refine wp_region_lit ?_
    refine q_of s6 rfl (fun _ k => o_move (s6.ev rfl) k) (fun a8 s9 => ?_)
    refine q_of s9 rfl (fun _ k => o_add (s9.ev rfl) (s9.ev rfl) (wrap_u64 (by omega) (by omega)) k) (fun a10 s11 => ?_)
    refine q_of s11 rfl (fun _ k => o_conv (s11.ev rfl) und23 und5 (wrap_u8 (by omega) (by omega)) k) (fun a12 s13 => ?_)
    refine q_buildSlice s13 rfl h (vs := [(0, .int .u8 (48 + n))]) (cl := [.int .u8 (48 + n)]) (E := 5) rfl (fun w => by kernel_rfl) (fun a15 w17 b14 s16 h18 => ?_)
    have h18 : Holds _ _ ([(b14, .cells #[.int .u8 (48 + n)] 5 (0, 0))] :: F) := h18
    refine q_of s16 rfl (fun _ k => o_bytes (d := .bool) (s16.ev rfl) und54 und5 und9 (cs := [.int .u8 (48 + n)]) (zs := [48 + n]) rfl rfl (h18.rowI 0 0 (o := 0) rfl rfl rfl) (bs := [UInt8.ofNat ((48 + n).toNat)]) rfl k) (fun a19 s20 => ?_)
    refine q_of s20 rfl (fun _ k => o_assign (s20.ev rfl) k) (fun a21 s22 => ?_)
    refine wpList_nil ?_
    refine x_then_n ?_
    refine wp_ret ?_
    refine x_then_r ?_
    refine fin1 s22 rfl rfl ⟨_, _, rfl, (GS.Le.refl _), h18.drop, ?_⟩
    first | (rw [itoa_small n (by omega) (by omega)]; done) | (rw [itoa_step n (by omega)]; done)
  ·
    refine wp_skip ?_
    refine x_then_n ?_
    refine wp_seq ?_
    refine wp_region_lit ?_
    refine q_of s6 rfl (fun _ k => o_move (s6.ev rfl) k) (fun a23 s24 => ?_)
    refine q_of s24 rfl (fun _ k => o_quo (s24.ev rfl) (s24.ev rfl) (by omega) (tdiv_pos (by omega)) (wrap_u64 (by omega) (by omega)) k) (fun a25 s26 => ?_)
    refine q_call s26 rfl ok47 rfl (ih (n / 10) (by omega) (by omega) h) (fun a27 w29 v34 G31 hs35 h30 hv33 s28 => ?_)
    subst hv33
    have hG32 := (GS.Le.refl _).trans hs35
    have hL_798107 := itoaU (n / 10) (by omega) (by omega)
    refine q_of s28 rfl (fun _ k => o_move (s28.ev rfl) k) (fun a36 s37 => ?_)
    refine q_of s37 rfl (fun _ k => o_rem (s37.ev rfl) (s37.ev rfl) (by omega) (tmod_pos (by omega)) k) (fun a38 s39 => ?_)
    refine q_call s39 rfl ok47 rfl (ih (n % 10) (by omega) (by omega) h30) (fun a40 w42 v47 G44 hs48 h43 hv46 s41 => ?_)
    subst hv46
    have hG45 := hG32.trans hs48
    have hL_312447 := itoaU (n % 10) (by omega) (by omega)
    refine q_of s41 rfl (fun _ k => o_sadd (s41.ev rfl) (s41.ev rfl) (by first | omega | (simp only [List.length_append, List.length_cons, List.length_nil] ; omega)) k) (fun a49 s50 => ?_)
    refine q_of s50 rfl (fun _ k => o_assign (s50.ev rfl) k) (fun a51 s52 => ?_)
    refine wpList_nil ?_
    refine x_then_n ?_
    refine wp_ret ?_
    refine fin1 s52 rfl rfl ⟨_, _, rfl, hG45, h43, ?_⟩
    first | (rw [itoa_small n (by omega) (by omega)]; done) | (rw [itoa_step n (by omega)]; done)
theorem dig_spec (n : Int) {G : GS} {w : World} {F : List Chunk} (h_n : 0 ≤ n ∧ n ≤ 18446744073709551615) (h : Holds G w F) :
    Calls Tryd.prog 47 #[.int .u64 n] w (Ret G F fun G v => v = S (Lib.itoa n)) := dig_spec_aux (n.toNat + 1) n (Nat.lt_succ_self _) h_n h
end Go.Proofs.YtdangmomddpegaaDoor
namespace Go.Lib
open Go
def okc (b : Nat) : Bool := (Nat.ble 97 b && Nat.ble b 122) || (Nat.ble 48 b && Nat.ble b 57)
def oddB (r : Nat) : Bool := !okc r
theorem decode_low (s : ByteArray) (i : Nat) (h : (s.get! i).toNat < 128) : Utf8.decode s i = ((s.get! i).toNat, 1) := by
  unfold Utf8.decode
  simp only [Nat.add_zero]
  rw [if_pos h]
theorem decode_high (s : ByteArray) (i : Nat) (h : ¬ (s.get! i).toNat < 128) : 128 ≤ (Utf8.decode s i).1 := by
  unfold Utf8.decode
  simp only [Nat.add_zero]
  rw [if_neg h]
  split
  · split
    · assumption
    · decide
  · split
    · split
      · rename_i q
        simp only [ge_iff_le, Bool.and_eq_true, decide_eq_true_eq] at q
        omega
      · decide
    · split
      · split
        · rename_i q
          simp only [ge_iff_le, Bool.and_eq_true, decide_eq_true_eq] at q
          omega
        · decide
      · decide
theorem okc_low {b : Nat} (h : okc b = true) : b < 128 := by
  simp only [okc, Bool.or_eq_true, Bool.and_eq_true, Nat.ble_eq] at h
  omega
theorem idx_from (s : ByteArray) : ∀ (f pos : Nat), s.size - pos ≤ f → (idxFuncFrom oddB true s f pos < 0 ↔ ∀ j, pos ≤ j → j < s.size → okc (s.get! j).toNat = true)
  | 0, pos, h => by
    simp only [idxFuncFrom]
    constructor
    · intro _ j h1 h2; omega
    · intro _; decide
  | f + 1, pos, h => by
    unfold idxFuncFrom
    split
    · rename_i hp
      by_cases hb : okc (s.get! pos).toNat = true
      · have hd := decode_low s pos (okc_low hb)
        rw [hd]
        simp only [oddB, hb]
        rw [if_neg (by decide), idx_from s f (pos + 1) (by omega)]
        constructor
        · intro q j h1 h2
          rcases Nat.eq_or_lt_of_le h1 with rfl | h1
          · exact hb
          · exact q j h1 h2
        · intro q j h1 h2; exact q j (by omega) h2
      · have ho : oddB (Utf8.decode s pos).1 = true := by
          by_cases hl : (s.get! pos).toNat < 128
          · rw [decode_low s pos hl]
            simp only [oddB]
            simpa using hb
          · have := decode_high s pos hl
            simp only [oddB]
            cases hc : okc (Utf8.decode s pos).1 with
            | false => rfl
            | true => have := okc_low hc; omega
        rw [if_pos ho]
        constructor
        · intro q; omega
        · intro q; exact absurd (q pos (Nat.le_refl _) hp) hb
    · rename_i hp
      constructor
      · intro _ j h1 h2; omega
      · intro _; decide
theorem idx_neg (l : List UInt8) : idxFunc oddB true ⟨l.toArray⟩ < 0 ↔ ∀ b ∈ l, okc b.toNat = true := by
  unfold idxFunc
  rw [idx_from _ _ _ (by omega)]
  have hs : ByteArray.size ⟨l.toArray⟩ = l.length := by simp [ByteArray.size]
  rw [hs]
  constructor
  · intro h b hb
    obtain ⟨j, hj⟩ := List.mem_iff_getElem?.1 hb
    obtain ⟨h1, h2⟩ := List.getElem?_eq_some_iff.1 hj
    have := h j (Nat.zero_le _) h1
    simpa [ByteArray.get!, h1, h2] using this
  · intro h j _ hj
    have : (ByteArray.get! ⟨l.toArray⟩ j) = l[j] := by simp [ByteArray.get!, hj]
    rw [this]
    exact h _ (List.getElem_mem hj)
end Go.Lib
namespace Go.Proofs.YtdangmomddpegaaDoor
open Go Go.RowKit Go.Eng Go.Sy
set_option linter.unusedVariables false
set_option maxRecDepth 100000
theorem mixed_np : Tryd.prog.follows .mixedOrders = true := by kernel_rfl
theorem odd_iff (x : Nat) : Lib.oddB x = true ↔ ¬ ((97 ≤ x ∧ x ≤ 122) ∨ (48 ≤ x ∧ x ≤ 57)) := by
  unfold Lib.oddB Lib.okc
  cases h1 : Nat.ble 97 x <;> cases h2 : Nat.ble x 122 <;> cases h3 : Nat.ble 48 x <;> cases h4 : Nat.ble x 57 <;> simp only [← Bool.not_eq_true, Nat.ble_eq] at h1 h2 h3 h4 <;> simp <;> omega
theorem odd_gives (W : World) (x : Nat) : FnGives Tryd.prog 86 #[] #[.int .i32 (x : Int)] (.bool (Lib.oddB x)) W := by
  have mixed := mixed_np
  unfold FnGives
  go_enter Tryd.func86, Tryd.ntmps86
  go_wp2
  all_goals
    go_ret
    refine ⟨?_, 0, by simp [World.drewN_zero]⟩
    refine congrArg (fun b => Ending.returned (Value.bool b)) ?_
    rw [Bool.eq_iff_iff, odd_iff]
    simp only [Bool.and_eq_true, Bool.or_eq_true, decide_eq_true_eq, Bool.false_eq_true, eq_self, true_iff, false_iff]
    omega
theorem enters86 : ∀ args w, (callFunc 86 args).run Tryd.prog w = .ok (.enter 86 args) w := enters_of Tryd.func86 (by kernel_rfl) rfl
noncomputable def spIdx (g : Nat) : SpecE := fun us _ _ K => match us with
  | [v, .fn f []] => must (Nat.beq f g) (sA v fun s => K (.sy (.int 0 (Lib.idxFunc Lib.oddB true ⟨s.toArray⟩))) .leaf 0)
  | _ => false
theorem na_idx : NatE Tryd.prog 87 0 (spIdx 86) := by
  intro us xs E ρ G F M nx w K R hE hs hd hk hr
  unfold spIdx at hk
  split at hk
  case h_2 => cases hk
  rename_i v f
  obtain ⟨q1, hk1⟩ := must_ok hk
  have q1 := Nat.eq_of_beq_eq_true q1
  subst q1
  obtain ⟨s, e1, hk2⟩ := sA_ok (E := E) (ρ := ρ) hk1
  obtain ⟨x, ys, d1, d2, rfl⟩ := denL_cons hd
  obtain ⟨x2, ys2, d3, d4, rfl⟩ := denL_cons d2
  obtain rfl : ys2 = [] := by simpa [denL] using d4.symm
  obtain rfl : x = S s := Option.some.inj (d1.symm.trans e1)
  obtain rfl : x2 = .func (.func 86) #[] #[] := by simpa [den, denL] using d3.symm
  obtain ⟨c, hh, _, _⟩ := hs.ex
  refine (Tryd.strings_IndexFunc 86 #[] enters86 Lib.oddB ⟨s.toArray⟩ w (fun W x _ => odd_gives W x)).mono fun e w' ⟨he, hb⟩ => ?_
  subst he
  exact hr _ _ _ ⟨E.at_, E.M⟩ (fun _ => none) w' _ hk2 hE (MLe.refl _) (fun i e h => absurd h (Nat.not_lt_zero i)) (hs.bare (GS.Le.refl _) (hh.drop.ext hb)) rfl
theorem na_dig : NatE Tryd.prog 47 0 (spN1 4 Lib.itoa) := natE_N1 fun z G w F hz t h => dig_spec z hz h
theorem na_digL : NatE Tryd.prog 47 0 (spNL 4 100000000000000000000 tl0) := natE_NL (by decide) (ts := []) tl0_ok fun n G w F _ hz t h => by
  rw [← itoa_nat]
  exact dig_spec n hz h
theorem na_fmtU : NatE Tryd.prog 67 0 (spN2 4 10 Lib.itoa) := natE_N2 fun z G w F hz t h =>
  (fmtU_all z hz.1 hz.2 w ((Tied.gvar tabAt t).var h)).mono fun _ _ ⟨he, k, os, hw⟩ => ⟨_, G, he, GS.Le.refl G, h.ext (hw ▸ below_growN w k os), rfl⟩
end Go.Proofs.YtdangmomddpegaaDoor
namespace Go.Lib
def verbT (k : Int) : List UInt8 := if k = 0 then [114, 101, 97, 100] else if k = 1 then [119, 114, 105, 116, 101] else if k = 2 then [97, 100, 100] else if k = 3 then [116, 97, 107, 101] else [101, 114, 97, 115, 101]
end Go.Lib
namespace Go.Proofs.YtdangmomddpegaaDoor
open Go Go.RowKit Go.Eng Go.Sy
set_option linter.unusedVariables false
set_option maxRecDepth 100000
def vcs : Array Value := #[.string ⟨#[114, 101, 97, 100]⟩, .string ⟨#[119, 114, 105, 116, 101]⟩, .string ⟨#[97, 100, 100]⟩, .string ⟨#[116, 97, 107, 101]⟩, .string ⟨#[101, 114, 97, 115, 101]⟩]
theorem vix (t : TypeId) (i : Nat) (x : Value) (hi : vcs[i]? = some x) (ht : Tryd.prog.underlying t = some (.array 5 9)) (w : World) : (Instr.index t (.agg vcs) (.int .u8 (i : Int))).run Tryd.prog w = .ok x w := by
  have h5 : i < 5 := by
    have h := Array.getElem?_eq_some_iff.1 hi
    obtain ⟨h, _⟩ := h
    exact h
  have e : szOf Tryd.prog 9 = some 1 := by kernel_rfl
  have hi' : (i : Int) < 5 := by omega
  have ha : isAg Tryd.prog 9 = some false := by kernel_rfl
  have e9 : Tryd.t9.size = 1 := by kernel_rfl
  have hi3 : vcs[i * Tryd.t9.size]? = some x := by rw [e9, Nat.mul_one]; exact hi
  simp [Instr.index, run_underlying ht, asIntOf, go_sem, part, sizeOf]
  rw [if_pos h5, hi3]
  simp [go_sem]
theorem vt {k : Int} (h0 : 0 ≤ k) : ∃ i : Nat, min k 4 = (i : Int) ∧ vcs[i]? = some (S (Lib.verbT k)) := by
  rcases Int.lt_or_le k 4 with h | h
  · have e : k = 0 ∨ k = 1 ∨ k = 2 ∨ k = 3 := by omega
    rcases e with rfl | rfl | rfl | rfl
    · exact ⟨0, rfl, rfl⟩
    · exact ⟨1, rfl, rfl⟩
    · exact ⟨2, rfl, rfl⟩
    · exact ⟨3, rfl, rfl⟩
  · refine ⟨4, by omega, ?_⟩
    have e : Lib.verbT k = [101, 114, 97, 115, 101] := by
      unfold Lib.verbT
      rw [if_neg (by omega), if_neg (by omega), if_neg (by omega), if_neg (by omega)]
    rw [e]
    rfl
theorem verb_calls (W : World) (k : Int) (h0 : 0 ≤ k) : Calls Tryd.prog 68 #[.int .u8 k] W fun e w' => e = .returned (S (Lib.verbT k)) ∧ ∃ q, w' = W.drewN q := by
  have mixed := mixed_np
  obtain ⟨i, e1, e2⟩ := vt h0
  have hr := fun w => vix 137 i (S (Lib.verbT k)) e2 (by kernel_rfl) w
  simp only [vcs] at hr
  go_enter Tryd.func68, Tryd.ntmps68
  go_wp2
  go_ret
  all_goals first
    | exact ⟨rfl, 0, (by simp [World.drewN_zero])⟩
    | trace_state
theorem na_verb : NatE Tryd.prog 68 0 (spN1 1 Lib.verbT) := natE_N1 fun z G w F hz t h =>
  (verb_calls w z hz.1).mono fun _ _ ⟨he, k, hw⟩ => ⟨_, G, he, GS.Le.refl G, h.ext (by rw [hw] ; exact below_drewN w k), rfl⟩
end Go.Proofs.YtdangmomddpegaaDoor
namespace Go.Proofs.Tryd
open Go Go.RowKit Go.Eng Go.Sy
set_option maxRecDepth 100000
def p_ (i d : Nat) (x : XO) : XSt := .p i (some d) none x
def pg_ (i d t : Nat) (b : Bool) (x : XO) : XSt := .p i (some d) (some (t, b)) x
def r_ (i d : Nat) (x : XO) : XSt := .r i (some d) none x
def rg_ (i d t : Nat) (b : Bool) (x : XO) : XSt := .r i (some d) (some (t, b)) x
def e_ (i d : Nat) (x : XO) : XSt := .e i (some d) none x
def e0_ (i : Nat) (x : XO) : XSt := .e i none none x
def c_ (i d f : Nat) (xs : List XP) : XSt := .c i (some d) none f xs
def cg_ (i d t : Nat) (b : Bool) (f : Nat) (xs : List XP) : XSt := .c i (some d) (some (t, b)) f xs
def a_ (i d : Nat) (x : XO) : XSt := .a i d none x
def ag_ (i d t : Nat) (b : Bool) (x : XO) : XSt := .a i d (some (t, b)) x
def m_ (n : Nat) : XO := .mv (.t n)
def n_ (n : Nat) : XO := .nck (.t n)
def f_ (k n : Nat) : XO := .fa k (.t n)
def l_ (n : Nat) : XO := .ld false 1 (.t n)
def k_ (n : Nat) : XO := .len 1 (.t n)
def i_ (n : Nat) : XP := .c (.int 0 (.ofNat n))
def o_ (n : Nat) : AV := .int 0 (.ofNat n)
def g_ (n : Nat) (l : List XSt) : XC := .reg false n (.leaf l)
def h_ (n : Nat) (l : List XSt) : XC := .reg true n (.leaf l)
def ts_Good (f : Nat) (x : XF) : Prop := chkF Tryd.prog f x = true ∧ plain (bodyOf x) = true
def ts5 : XF := .mk 13 (.one 2) (.seq (g_ 2 [e_ 0 1 (.box 28 (.t 0)), p_ 1 2 (.mv (.c (.bool false)))]) (.seq (g_ 11 [p_ 0 3 (f_ 8 1), r_ 1 4 (l_ 3), c_ 2 5 15 [(.t 4), (i_ 60)], p_ 3 6 (m_ 5), pg_ 4 7 6 true (f_ 0 1), pg_ 5 8 6 true (f_ 0 7), rg_ 6 9 6 true (l_ 8), pg_ 7 10 6 true (k_ 9), pg_ 8 11 6 true (.bin 3 1 (.t 10) (i_ 10)), p_ 9 12 (.pick (.t 6) (.t 11) (.c (.bool false))), p_ 10 2 (m_ 12)]) .ret))
theorem ts5_g : ts_Good 5 ts5 := ⟨by kernel_rfl, by kernel_rfl⟩
def ts7 : XF := .mk 28 (.two 2 3) (.seq (g_ 3 [e_ 0 1 (.box 39 (.t 0)), p_ 1 2 (.mv (.c (.str []))), p_ 2 3 (.mv (i_ 0))]) (.seq (.seq (g_ 3 [r_ 0 7 (.ld true 9 (.t 1)), c_ 1 8 11 [.t 7], p_ 2 9 (.un 0 (.t 8))]) (.cond (.t 9) (.seq (g_ 2 [p_ 0 2 (.mv (.c (.str []))), p_ 1 3 (.mv (i_ 1))]) .ret) .skip)) (.seq (g_ 1 [e_ 0 4 (.al 56 [.nilP, .nilS])]) (.seq (g_ 4 [p_ 0 10 (f_ 0 1), r_ 1 11 (.ld true 8 (.t 10)), c_ 2 12 18 [.t 11], c_ 3 13 17 [(.t 4), (.t 12)]]) (.seq (.seq (g_ 4 [p_ 0 14 (f_ 8 1), r_ 1 15 (l_ 14), p_ 2 16 (k_ 15), p_ 3 17 (.mv (i_ 0))]) (.block 2 (.loop [2, 3, 4, 6, 15, 16, 17, 18, 19, 20, 21, 22, 24, 25, 26, 27] (.seq (g_ 1 [p_ 0 18 (.bin 3 0 (.t 17) (.t 16))]) (.seq (.cond (.t 18) .skip (.exit 2)) (.seq (.block 3 (.seq (g_ 4 [p_ 0 19 (.ixs 9 (.t 15) (.t 17)), r_ 1 20 (.ld true 9 (.t 19)), e_ 2 6 (.al 52 [(o_ 0), (o_ 0), (o_ 0), (o_ 0), (o_ 0), (o_ 0), (.int 3 (.ofNat 0)), (.int 1 (.ofNat 0)), .nilS]), e0_ 3 (.st 9 (.t 6) (.t 20))]) (.seq (g_ 3 [r_ 0 21 (.ld true 9 (.t 6)), c_ 1 22 19 [.t 21], c_ 2 23 17 [(.t 4), (.t 22)]]) (.seq (g_ 2 [c_ 0 24 20 [.t 4], p_ 1 25 (.bin 3 2 (.t 24) (i_ 65536))]) (.cond (.t 25) (.seq (g_ 2 [p_ 0 2 (.mv (.c (.str []))), p_ 1 3 (.mv (i_ 5))]) .ret) .skip))))) (g_ 2 [p_ 0 26 (.bin 0 0 (.t 17) (i_ 1)), p_ 1 17 (m_ 26)]))))))) (.seq (g_ 3 [c_ 0 27 21 [.t 4], p_ 1 2 (m_ 27), p_ 2 3 (.mv (i_ 0))]) .ret))))))
theorem ts7_g : ts_Good 7 ts7 := ⟨by kernel_rfl, by kernel_rfl⟩
def ts8 : XF := .mk 28 (.cell 2 true 9) (.seq (g_ 2 [e_ 0 1 (.box 28 (.t 0)), e_ 1 2 (.al 39 [.nilS, (o_ 0), (o_ 0), (o_ 0), (o_ 0), (o_ 0), (o_ 0), (.int 4 (.ofNat 0)), .nilS])]) (.seq (g_ 6 [p_ 0 5 (f_ 0 1), r_ 1 6 (.ld true 8 (.t 5)), c_ 2 7 22 [.t 6], p_ 3 8 (.bld [.nilS, (o_ 0), (o_ 0), (o_ 0), (o_ 0), (o_ 0), (o_ 0), (.int 4 (.ofNat 0)), .nilS] [(0, 8)] [.t 7]), e_ 4 3 (.al 39 [.nilS, (o_ 0), (o_ 0), (o_ 0), (o_ 0), (o_ 0), (o_ 0), (.int 4 (.ofNat 0)), .nilS]), e0_ 5 (.st 9 (.t 3) (.t 8))]) (.seq (.seq (g_ 1 [p_ 0 4 (.mv (i_ 0))]) (.block 2 (.loop [1, 2, 3, 4, 9, 10, 11, 12, 13, 14, 15, 16, 17, 18, 19, 20, 21, 22, 23, 24, 25, 26, 27] (.seq (.seq (g_ 5 [p_ 0 9 (m_ 4), p_ 1 10 (f_ 8 1), r_ 2 11 (l_ 10), p_ 3 12 (k_ 11), p_ 4 13 (.bin 3 0 (.t 9) (.t 12))]) (.cond (.t 13) .skip (.exit 2))) (.seq (.block 3 (h_ 12 [p_ 0 16 (f_ 8 3), r_ 1 17 (l_ 16), p_ 2 18 (f_ 8 1), r_ 3 19 (l_ 18), p_ 4 20 (m_ 4), p_ 5 21 (.ixs 9 (.t 19) (.t 20)), r_ 6 22 (.ld true 9 (.t 21)), c_ 7 23 23 [.t 22], a_ 1 17 (l_ 16), e_ 8 24 (.bsl 52 9 1 [(o_ 0), (o_ 0), (o_ 0), (o_ 0), (o_ 0), (o_ 0), (.int 3 (.ofNat 0)), (.int 1 (.ofNat 0)), .nilS] [(0, 9)] [.t 23]), a_ 1 17 (l_ 16), e_ 9 25 (.app 52 9 80 (.t 17) (.t 24)), p_ 10 26 (f_ 8 3), e0_ 11 (.st 1 (.t 26) (.t 25))])) (g_ 3 [p_ 0 14 (m_ 4), p_ 1 15 (.bin 0 0 (.t 14) (i_ 1)), p_ 2 4 (m_ 15)])))))) (.seq (g_ 2 [r_ 0 27 (.ld true 9 (.t 3)), e0_ 1 (.st 9 (.t 2) (.t 27))]) .ret))))
theorem ts8_g : ts_Good 8 ts8 := ⟨by kernel_rfl, by kernel_rfl⟩
def ts10 : XF := .mk 4 (.one 2) (.seq (g_ 1 [p_ 0 2 (.mv (i_ 0))]) (.seq (g_ 2 [p_ 0 3 (m_ 0), p_ 1 2 (m_ 3)]) .ret))
theorem ts10_g : ts_Good 10 ts10 := ⟨by kernel_rfl, by kernel_rfl⟩
def ts11 : XF := .mk 55 (.one 2) (.seq (g_ 2 [e_ 0 1 (.box 39 (.t 0)), p_ 1 2 (.mv (.c (.bool false)))]) (.seq (.seq (g_ 5 [p_ 0 8 (f_ 0 1), p_ 1 9 (f_ 0 8), r_ 2 10 (l_ 9), p_ 3 11 (k_ 10), p_ 4 3 (m_ 11)]) (.seq (g_ 6 [p_ 0 12 (m_ 3), p_ 1 13 (.bin 3 4 (.t 12) (i_ 0)), p_ 2 14 (m_ 13), pg_ 3 15 14 false (m_ 3), pg_ 4 16 14 false (.bin 3 2 (.t 15) (i_ 4)), p_ 5 17 (.pick (.t 14) (.c (.bool true)) (.t 16))]) (.cond (.t 17) (.seq (g_ 1 [p_ 0 2 (.mv (.c (.bool false)))]) .ret) .skip))) (.seq (.seq (g_ 5 [p_ 0 18 (f_ 0 1), p_ 1 19 (f_ 0 18), r_ 2 20 (l_ 19), p_ 3 21 (k_ 20), p_ 4 22 (.mv (i_ 0))]) (.block 2 (.loop [1, 2, 5, 7, 20, 21, 22, 23, 24, 25, 26, 27, 28, 29, 30, 31, 32, 33, 34, 35, 36, 37, 38, 39, 40, 41, 42, 43, 44, 45, 46, 47, 48, 49, 50, 51, 52, 53, 54] (.seq (g_ 1 [p_ 0 23 (.bin 3 0 (.t 22) (.t 21))]) (.seq (.cond (.t 23) .skip (.exit 2)) (.seq (.block 3 (.seq (g_ 4 [p_ 0 24 (.ixs 3 (.t 20) (.t 22)), r_ 1 25 (.ld true 3 (.t 24)), e_ 2 5 (.al 73 [(o_ 0), (o_ 0), (.bool false)]), e0_ 3 (.st 3 (.t 5) (.t 25))]) (.seq (g_ 10 [p_ 0 26 (f_ 0 5), r_ 1 27 (l_ 26), c_ 2 28 26 [.t 27], p_ 3 29 (.un 0 (.t 28)), p_ 4 30 (m_ 29), pg_ 5 31 30 false (f_ 1 5), rg_ 6 32 30 false (l_ 31), cg_ 7 33 30 false 26 [.t 32], pg_ 8 34 30 false (.un 0 (.t 33)), p_ 9 35 (.pick (.t 30) (.c (.bool true)) (.t 34))]) (.cond (.t 35) (.seq (g_ 1 [p_ 0 2 (.mv (.c (.bool false)))]) .ret) .skip)))) (g_ 2 [p_ 0 36 (.bin 0 0 (.t 22) (i_ 1)), p_ 1 22 (m_ 36)]))))))) (.seq (.seq (g_ 4 [p_ 0 37 (f_ 0 1), c_ 1 38 27 [.t 37], p_ 2 39 (k_ 38), p_ 3 40 (.mv (i_ 0))]) (.block 4 (.loop [1, 2, 7, 38, 39, 40, 41, 42, 43, 44, 45, 46, 47, 48, 49, 50, 51, 52, 53, 54] (.seq (g_ 1 [p_ 0 41 (.bin 3 0 (.t 40) (.t 39))]) (.seq (.cond (.t 41) .skip (.exit 4)) (.seq (.block 5 (.seq (g_ 4 [p_ 0 42 (.ixs 2 (.t 38) (.t 40)), r_ 1 43 (.ld true 2 (.t 42)), e_ 2 7 (.al 80 [(.str []), .nilP]), e0_ 3 (.st 2 (.t 7) (.t 43))]) (.seq (g_ 6 [p_ 0 44 (f_ 1 7), r_ 1 45 (l_ 44), p_ 2 46 (n_ 45), r_ 3 47 (l_ 46), c_ 4 48 26 [.t 47], p_ 5 49 (.un 0 (.t 48))]) (.cond (.t 49) (.seq (g_ 1 [p_ 0 2 (.mv (.c (.bool false)))]) .ret) .skip)))) (g_ 2 [p_ 0 50 (.bin 0 0 (.t 40) (i_ 1)), p_ 1 40 (m_ 50)]))))))) (.seq (g_ 5 [p_ 0 51 (f_ 8 1), r_ 1 52 (l_ 51), c_ 2 53 28 [(.t 52), (.f 29)], p_ 3 54 (.un 0 (.t 53)), p_ 4 2 (m_ 54)]) .ret)))))
theorem ts11_g : ts_Good 11 ts11 := ⟨by kernel_rfl, by kernel_rfl⟩
def ts16 : XF := .mk 7 (.cell 2 true 8) (.seq (g_ 1 [e_ 0 2 (.al 25 [.nilS, (o_ 0), (o_ 0), (o_ 0), (o_ 0), (o_ 0), (o_ 0), (.int 4 (.ofNat 0))])]) (.seq (g_ 5 [p_ 0 3 (m_ 0), p_ 1 4 (.bld [(o_ 0), (o_ 0), (.bool false)] [(0, 1)] [.t 3]), e_ 2 5 (.bsl 83 3 1 [(o_ 0), (o_ 0), (.bool false)] [(0, 3)] [.t 4]), p_ 3 6 (.bld [.nilS, (o_ 0), (o_ 0), (o_ 0), (o_ 0), (o_ 0), (o_ 0), (.int 4 (.ofNat 0))] [(0, 1), (1, 1), (2, 1), (3, 1), (4, 1), (5, 1), (6, 1), (7, 1)] [(.t 5), (i_ 1), (i_ 4), (i_ 200), (i_ 1), (i_ 5), (i_ 500), (.c (.int 4 (.ofNat 1)))]), e0_ 4 (.st 8 (.t 2) (.t 6))]) .ret))
theorem ts16_g : ts_Good 16 ts16 := ⟨by kernel_rfl, by kernel_rfl⟩
def ts18 : XF := .mk 58 (.one 2) (.seq (g_ 2 [e_ 0 1 (.box 36 (.t 0)), p_ 1 2 (.mv (.c (.str [])))]) (.seq (g_ 1 [e_ 0 3 (.al 56 [.nilP, .nilS])]) (.seq (.seq (g_ 4 [p_ 0 9 (f_ 0 1), r_ 1 10 (l_ 9), p_ 2 11 (k_ 10), p_ 3 12 (.mv (i_ 0))]) (.block 2 (.loop [1, 2, 3, 5, 6, 8, 10, 11, 12, 13, 14, 15, 16, 17, 18, 19, 20, 21, 22, 23, 24, 25, 26, 27, 28, 29, 30, 32, 33, 34, 35, 36, 37, 38, 39, 40, 41, 42, 43, 44, 45, 46, 47, 48, 50, 51, 52, 53, 54, 55, 57] (.seq (g_ 1 [p_ 0 13 (.bin 3 0 (.t 12) (.t 11))]) (.seq (.cond (.t 13) .skip (.exit 2)) (.seq (.block 3 (.seq (g_ 4 [p_ 0 14 (.ixs 3 (.t 10) (.t 12)), r_ 1 15 (.ld true 3 (.t 14)), e_ 2 5 (.al 73 [(o_ 0), (o_ 0), (.bool false)]), e0_ 3 (.st 3 (.t 5) (.t 15))]) (.seq (g_ 1 [p_ 0 6 (.mv (.c (.str [112, 108, 97, 105, 110])))]) (.seq (.seq (g_ 2 [p_ 0 16 (f_ 2 5), r_ 1 17 (l_ 16)]) (.cond (.t 17) (g_ 1 [p_ 0 6 (.mv (.c (.str [99, 104, 101, 99, 107])))]) .skip)) (h_ 14 [p_ 0 18 (f_ 0 5), r_ 1 19 (l_ 18), p_ 5 23 (f_ 1 5), r_ 6 24 (l_ 23), p_ 10 28 (m_ 6), c_ 2 20 40 [.t 19], a_ 6 24 (l_ 23), p_ 3 21 (.bin 4 0 (.c (.str [103, 114, 111, 117, 112, 32])) (.t 20)), p_ 4 22 (.bin 4 0 (.t 21) (.c (.str [32]))), c_ 7 25 40 [.t 24], p_ 8 26 (.bin 4 0 (.t 22) (.t 25)), p_ 9 27 (.bin 4 0 (.t 26) (.c (.str [32]))), p_ 11 29 (.bin 4 0 (.t 27) (.t 28)), p_ 12 30 (.bin 4 0 (.t 29) (.c (.str [10]))), c_ 13 31 17 [(.t 3), (.t 30)]]))))) (g_ 2 [p_ 0 32 (.bin 0 0 (.t 12) (i_ 1)), p_ 1 12 (m_ 32)]))))))) (.seq (.seq (g_ 3 [c_ 0 33 27 [.t 1], p_ 1 34 (k_ 33), p_ 2 35 (.mv (i_ 0))]) (.block 4 (.loop [1, 2, 3, 8, 33, 34, 35, 36, 37, 38, 39, 40, 41, 42, 43, 44, 45, 46, 47, 48, 50, 51, 52, 53, 54, 55, 57] (.seq (g_ 1 [p_ 0 36 (.bin 3 0 (.t 35) (.t 34))]) (.seq (.cond (.t 36) .skip (.exit 4)) (.seq (.block 5 (.seq (g_ 4 [p_ 0 37 (.ixs 2 (.t 33) (.t 35)), r_ 1 38 (.ld true 2 (.t 37)), e_ 2 8 (.al 80 [(.str []), .nilP]), e0_ 3 (.st 2 (.t 8) (.t 38))]) (h_ 11 [p_ 0 39 (f_ 0 8), r_ 1 40 (l_ 39), p_ 2 41 (.bin 4 0 (.t 40) (.c (.str [32]))), p_ 3 42 (f_ 1 8), r_ 4 43 (l_ 42), p_ 5 44 (n_ 43), r_ 6 45 (l_ 44), c_ 7 46 40 [.t 45], a_ 1 40 (l_ 39), p_ 8 47 (.bin 4 0 (.t 41) (.t 46)), p_ 9 48 (.bin 4 0 (.t 47) (.c (.str [10]))), c_ 10 49 17 [(.t 3), (.t 48)]]))) (g_ 2 [p_ 0 50 (.bin 0 0 (.t 35) (i_ 1)), p_ 1 35 (m_ 50)]))))))) (.seq (g_ 6 [p_ 0 51 (f_ 7 1), r_ 1 52 (l_ 51), c_ 2 53 41 [(.t 52), (i_ 10)], p_ 3 54 (.bin 4 0 (.c (.str [102, 105, 114, 115, 116, 32])) (.t 53)), p_ 4 55 (.bin 4 0 (.t 54) (.c (.str [10]))), c_ 5 56 17 [(.t 3), (.t 55)]]) (.seq (g_ 2 [c_ 0 57 21 [.t 3], p_ 1 2 (m_ 57)]) .ret))))))
theorem ts18_g : ts_Good 18 ts18 := ⟨by kernel_rfl, by kernel_rfl⟩
def ts19 : XF := .mk 52 (.one 2) (.seq (g_ 2 [e_ 0 1 (.box 52 (.t 0)), p_ 1 2 (.mv (.c (.str [])))]) (.seq (g_ 5 [p_ 0 8 (f_ 0 1), r_ 1 9 (l_ 8), c_ 2 10 42 [.t 9], e_ 3 11 (.bsl 9 1 1 [(.str [])] [(0, 1)] [.t 10]), p_ 4 3 (m_ 11)]) (.seq (.seq (g_ 3 [c_ 0 12 43 [.t 1], p_ 1 13 (k_ 12), p_ 2 14 (.mv (i_ 0))]) (.block 2 (.loop [1, 2, 3, 5, 7, 12, 13, 14, 15, 16, 17, 18, 19, 20, 21, 22, 23, 24, 25, 26, 27, 28, 29, 30, 31, 32, 33, 34, 35, 36, 37, 38, 39, 40, 41, 42, 43, 44, 45, 46, 47, 48, 49, 50, 51] (.seq (g_ 1 [p_ 0 15 (.bin 3 0 (.t 14) (.t 13))]) (.seq (.cond (.t 15) .skip (.exit 2)) (.seq (.block 3 (.seq (g_ 3 [p_ 0 16 (.ixs 1 (.t 12) (.t 14)), r_ 1 17 (l_ 16), p_ 2 5 (m_ 17)]) (g_ 8 [p_ 0 18 (m_ 3), p_ 1 19 (m_ 5), p_ 2 20 (n_ 19), r_ 3 21 (l_ 20), c_ 4 22 40 [.t 21], e_ 5 23 (.bsl 9 1 1 [(.str [])] [(0, 1)] [.t 22]), e_ 6 24 (.app 9 1 16 (.t 18) (.t 23)), p_ 7 3 (m_ 24)]))) (g_ 2 [p_ 0 25 (.bin 0 0 (.t 14) (i_ 1)), p_ 1 14 (m_ 25)]))))))) (.seq (.seq (g_ 3 [p_ 0 26 (f_ 0 1), r_ 1 27 (l_ 26), p_ 2 28 (.bin 3 4 (.t 27) (i_ 5))]) (.cond (.t 28) (g_ 8 [p_ 0 29 (m_ 3), p_ 1 30 (f_ 6 1), r_ 2 31 (l_ 30), p_ 3 32 (.cnv 4 (.t 31)), c_ 4 33 41 [(.t 32), (i_ 10)], e_ 5 34 (.bsl 9 1 1 [(.str [])] [(0, 1)] [.t 33]), e_ 6 35 (.app 9 1 16 (.t 29) (.t 34)), p_ 7 3 (m_ 35)]) .skip)) (.seq (.seq (g_ 4 [p_ 0 36 (f_ 8 1), r_ 1 37 (l_ 36), p_ 2 38 (k_ 37), p_ 3 39 (.mv (i_ 0))]) (.block 4 (.loop [2, 3, 7, 37, 38, 39, 40, 41, 42, 43, 44, 45, 46, 47, 48, 49, 50, 51] (.seq (g_ 1 [p_ 0 40 (.bin 3 0 (.t 39) (.t 38))]) (.seq (.cond (.t 40) .skip (.exit 4)) (.seq (.block 5 (.seq (g_ 4 [p_ 0 41 (.ixs 5 (.t 37) (.t 39)), r_ 1 42 (.ld true 5 (.t 41)), e_ 2 7 (.al 100 [(.int 1 (.ofNat 0)), (.int 1 (.ofNat 0)), (.str []), (.str []), (o_ 0)]), e0_ 3 (.st 5 (.t 7) (.t 42))]) (g_ 6 [p_ 0 43 (m_ 3), r_ 1 44 (.ld true 5 (.t 7)), c_ 2 45 44 [.t 44], e_ 3 46 (.bsl 9 1 1 [(.str [])] [(0, 1)] [.t 45]), e_ 4 47 (.app 9 1 16 (.t 43) (.t 46)), p_ 5 3 (m_ 47)]))) (g_ 2 [p_ 0 48 (.bin 0 0 (.t 39) (i_ 1)), p_ 1 39 (m_ 48)]))))))) (.seq (g_ 4 [p_ 0 49 (m_ 3), c_ 1 50 45 [(.t 49), (.c (.str [32]))], p_ 2 51 (.bin 4 0 (.t 50) (.c (.str [10]))), p_ 3 2 (m_ 51)]) .ret))))))
theorem ts19_g : ts_Good 19 ts19 := ⟨by kernel_rfl, by kernel_rfl⟩
def ts20 : XF := .mk 8 (.one 2) (.seq (g_ 1 [p_ 0 2 (.mv (i_ 0))]) (.seq (g_ 6 [p_ 0 3 (m_ 0), p_ 1 4 (n_ 3), p_ 2 5 (f_ 1 4), r_ 3 6 (l_ 5), p_ 4 7 (k_ 6), p_ 5 2 (m_ 7)]) .ret))
theorem ts20_g : ts_Good 20 ts20 := ⟨by kernel_rfl, by kernel_rfl⟩
def ts22 : XF := .mk 46 (.cell 2 true 8) (.seq (g_ 2 [e_ 0 1 (.box 25 (.t 0)), e_ 1 2 (.al 36 [.nilS, (o_ 0), (o_ 0), (o_ 0), (o_ 0), (o_ 0), (o_ 0), (.int 4 (.ofNat 0))])]) (.seq (g_ 17 [p_ 0 6 (f_ 1 1), r_ 1 7 (l_ 6), p_ 2 8 (f_ 2 1), r_ 3 9 (l_ 8), p_ 4 10 (f_ 3 1), r_ 5 11 (l_ 10), p_ 6 12 (f_ 4 1), r_ 7 13 (l_ 12), p_ 8 14 (f_ 5 1), r_ 9 15 (l_ 14), p_ 10 16 (f_ 6 1), r_ 11 17 (l_ 16), p_ 12 18 (f_ 7 1), r_ 13 19 (l_ 18), p_ 14 20 (.bld [.nilS, (o_ 0), (o_ 0), (o_ 0), (o_ 0), (o_ 0), (o_ 0), (.int 4 (.ofNat 0))] [(1, 1), (2, 1), (3, 1), (4, 1), (5, 1), (6, 1), (7, 1)] [(.t 7), (.t 9), (.t 11), (.t 13), (.t 15), (.t 17), (.t 19)]), e_ 15 3 (.al 36 [.nilS, (o_ 0), (o_ 0), (o_ 0), (o_ 0), (o_ 0), (o_ 0), (.int 4 (.ofNat 0))]), e0_ 16 (.st 8 (.t 3) (.t 20))]) (.seq (.seq (g_ 1 [p_ 0 4 (.mv (i_ 0))]) (.block 2 (.loop [1, 2, 3, 4, 5, 21, 22, 23, 24, 25, 26, 27, 28, 29, 30, 31, 32, 33, 34, 35, 36, 37, 38, 39, 40, 41, 42, 43, 44, 45] (.seq (.seq (g_ 5 [p_ 0 21 (m_ 4), p_ 1 22 (f_ 0 1), r_ 2 23 (l_ 22), p_ 3 24 (k_ 23), p_ 4 25 (.bin 3 0 (.t 21) (.t 24))]) (.cond (.t 25) .skip (.exit 2))) (.seq (.block 3 (.seq (g_ 7 [p_ 0 28 (f_ 0 1), r_ 1 29 (l_ 28), p_ 2 30 (m_ 4), p_ 3 31 (.ixs 3 (.t 29) (.t 30)), r_ 4 32 (.ld true 3 (.t 31)), e_ 5 5 (.al 83 [(o_ 0), (o_ 0), (.bool false)]), e0_ 6 (.st 3 (.t 5) (.t 32))]) (g_ 13 [p_ 0 33 (f_ 0 3), r_ 1 34 (l_ 33), p_ 2 35 (f_ 0 5), r_ 3 36 (l_ 35), p_ 4 37 (f_ 1 5), r_ 5 38 (l_ 37), p_ 6 39 (f_ 2 5), r_ 7 40 (l_ 39), p_ 8 41 (.bld [(o_ 0), (o_ 0), (.bool false)] [(0, 1), (1, 1), (2, 1)] [(.t 36), (.t 38), (.t 40)]), e_ 9 42 (.bsl 73 3 1 [(o_ 0), (o_ 0), (.bool false)] [(0, 3)] [.t 41]), e_ 10 43 (.app 73 3 24 (.t 34) (.t 42)), p_ 11 44 (f_ 0 3), e0_ 12 (.st 1 (.t 44) (.t 43))]))) (g_ 3 [p_ 0 26 (m_ 4), p_ 1 27 (.bin 0 0 (.t 26) (i_ 1)), p_ 2 4 (m_ 27)])))))) (.seq (g_ 2 [r_ 0 45 (.ld true 8 (.t 3)), e0_ 1 (.st 8 (.t 2) (.t 45))]) .ret))))
theorem ts22_g : ts_Good 22 ts22 := ⟨by kernel_rfl, by kernel_rfl⟩
def ts23 : XF := .mk 23 (.cell 2 true 9) (.seq (g_ 2 [e_ 0 1 (.box 69 (.t 0)), e_ 1 2 (.al 52 [(o_ 0), (o_ 0), (o_ 0), (o_ 0), (o_ 0), (o_ 0), (.int 3 (.ofNat 0)), (.int 1 (.ofNat 0)), .nilS])]) (.seq (h_ 21 [p_ 0 3 (f_ 0 1), r_ 1 4 (l_ 3), p_ 2 5 (f_ 1 1), r_ 3 6 (l_ 5), p_ 4 7 (f_ 2 1), r_ 5 8 (l_ 7), p_ 6 9 (f_ 3 1), r_ 7 10 (l_ 9), p_ 8 11 (f_ 4 1), r_ 9 12 (l_ 11), p_ 10 13 (f_ 5 1), r_ 11 14 (l_ 13), p_ 12 15 (f_ 6 1), r_ 13 16 (l_ 15), p_ 14 17 (f_ 7 1), r_ 15 18 (l_ 17), p_ 16 19 (f_ 8 1), r_ 17 20 (l_ 19), c_ 18 21 46 [.t 20], a_ 1 4 (l_ 3), a_ 3 6 (l_ 5), a_ 5 8 (l_ 7), a_ 7 10 (l_ 9), a_ 9 12 (l_ 11), a_ 11 14 (l_ 13), a_ 13 16 (l_ 15), a_ 15 18 (l_ 17), p_ 19 22 (.bld [(o_ 0), (o_ 0), (o_ 0), (o_ 0), (o_ 0), (o_ 0), (.int 3 (.ofNat 0)), (.int 1 (.ofNat 0)), .nilS] [(0, 1), (1, 1), (2, 1), (3, 1), (4, 1), (5, 1), (6, 1), (7, 1), (8, 1)] [(.t 4), (.t 6), (.t 8), (.t 10), (.t 12), (.t 14), (.t 16), (.t 18), (.t 21)]), e0_ 20 (.st 9 (.t 2) (.t 22))]) .ret))
theorem ts23_g : ts_Good 23 ts23 := ⟨by kernel_rfl, by kernel_rfl⟩
def ts26 : XF := .mk 9 (.one 2) (.seq (g_ 1 [p_ 0 2 (.mv (.c (.bool false)))]) (.seq (g_ 7 [p_ 0 3 (m_ 0), p_ 1 4 (.bin 3 3 (.t 3) (i_ 0)), p_ 2 5 (m_ 4), pg_ 3 6 5 true (m_ 0), pg_ 4 7 5 true (.bin 3 1 (.t 6) (i_ 1099511627776)), p_ 5 8 (.pick (.t 5) (.t 7) (.c (.bool false))), p_ 6 2 (m_ 8)]) .ret))
theorem ts26_g : ts_Good 26 ts26 := ⟨by kernel_rfl, by kernel_rfl⟩
def ts27 : XF := .mk 28 (.one 2) (.seq (g_ 1 [p_ 0 2 (.mv (.c .nilS))]) (.seq (h_ 26 [p_ 0 3 (m_ 0), p_ 1 4 (n_ 3), p_ 2 5 (f_ 1 4), p_ 3 6 (.bld [(.str []), .nilP] [(0, 1), (1, 1)] [(.c (.str [99, 108, 105, 101, 110, 116, 115])), (.t 5)]), p_ 4 7 (m_ 0), p_ 5 8 (n_ 7), p_ 6 9 (f_ 2 8), p_ 7 10 (.bld [(.str []), .nilP] [(0, 1), (1, 1)] [(.c (.str [119, 105, 110, 100, 111, 119])), (.t 9)]), p_ 8 11 (m_ 0), p_ 9 12 (n_ 11), p_ 10 13 (f_ 3 12), p_ 11 14 (.bld [(.str []), .nilP] [(0, 1), (1, 1)] [(.c (.str [100, 101, 97, 100, 108, 105, 110, 101])), (.t 13)]), p_ 12 15 (m_ 0), p_ 13 16 (n_ 15), p_ 14 17 (f_ 4 16), p_ 15 18 (.bld [(.str []), .nilP] [(0, 1), (1, 1)] [(.c (.str [112, 97, 99, 101])), (.t 17)]), p_ 16 19 (m_ 0), p_ 17 20 (n_ 19), p_ 18 21 (f_ 5 20), p_ 19 22 (.bld [(.str []), .nilP] [(0, 1), (1, 1)] [(.c (.str [97, 103, 97, 105, 110])), (.t 21)]), p_ 20 23 (m_ 0), p_ 21 24 (n_ 23), p_ 22 25 (f_ 6 24), p_ 23 26 (.bld [(.str []), .nilP] [(0, 1), (1, 1)] [(.c (.str [98, 97, 103])), (.t 25)]), e_ 24 27 (.bsl 80 2 6 [(.str []), .nilP, (.str []), .nilP, (.str []), .nilP, (.str []), .nilP, (.str []), .nilP, (.str []), .nilP] [(0, 2), (2, 2), (4, 2), (6, 2), (8, 2), (10, 2)] [(.t 6), (.t 10), (.t 14), (.t 18), (.t 22), (.t 26)]), p_ 25 2 (m_ 27)]) .ret))
theorem ts27_g : ts_Good 27 ts27 := ⟨by kernel_rfl, by kernel_rfl⟩
def ts28 : XF := .mk 9 (.one 4) (.seq (g_ 1 [p_ 0 4 (.mv (.c (.bool false)))]) (.seq (g_ 5 [p_ 0 5 (m_ 0), p_ 1 6 (m_ 1), c_ 2 7 52 [(.t 5), (.t 6)], p_ 3 8 (.bin 3 3 (.t 7) (i_ 0)), p_ 4 4 (m_ 8)]) .ret))
theorem ts28_g : ts_Good 28 ts28 := ⟨by kernel_rfl, by kernel_rfl⟩
def ts29 : XF := .mk 6 (.one 2) (.seq (g_ 2 [e_ 0 1 (.box 52 (.t 0)), p_ 1 2 (.mv (.c (.bool false)))]) (.seq (g_ 4 [r_ 0 3 (.ld true 9 (.t 1)), c_ 1 4 30 [.t 3], p_ 2 5 (.un 0 (.t 4)), p_ 3 2 (m_ 5)]) .ret))
theorem ts29_g : ts_Good 29 ts29 := ⟨by kernel_rfl, by kernel_rfl⟩
def ts30 : XF := .mk 50 (.one 2) (.seq (g_ 2 [e_ 0 1 (.box 52 (.t 0)), p_ 1 2 (.mv (.c (.bool false)))]) (.seq (.seq (h_ 11 [p_ 0 5 (f_ 0 1), r_ 1 6 (l_ 5), c_ 2 7 42 [.t 6], p_ 3 8 (.bin 5 0 (.t 7) (.c (.str []))), p_ 4 9 (m_ 8), rg_ 5 10 9 false (.ld true 9 (.t 1)), rg_ 6 11 9 false (.ld true 9 (.t 1)), cg_ 7 12 9 false 53 [.t 11], ag_ 5 10 9 false (.ld true 9 (.t 1)), cg_ 8 13 9 false 35 [(.t 10), (.t 12)], pg_ 9 14 9 false (.un 0 (.t 13)), p_ 10 15 (.pick (.t 9) (.c (.bool true)) (.t 14))]) (.cond (.t 15) (.seq (g_ 1 [p_ 0 2 (.mv (.c (.bool false)))]) .ret) .skip)) (.seq (.seq (g_ 3 [c_ 0 16 43 [.t 1], p_ 1 17 (k_ 16), p_ 2 18 (.mv (i_ 0))]) (.block 2 (.loop [1, 2, 4, 16, 17, 18, 19, 20, 21, 22, 23, 24, 25, 26, 27, 28, 29, 30, 31, 32, 33, 34, 35, 36, 37, 38, 39, 40, 41, 42, 43, 44, 45, 46, 47, 48, 49] (.seq (g_ 1 [p_ 0 19 (.bin 3 0 (.t 18) (.t 17))]) (.seq (.cond (.t 19) .skip (.exit 2)) (.seq (.block 3 (.seq (g_ 3 [p_ 0 20 (.ixs 1 (.t 16) (.t 18)), r_ 1 21 (l_ 20), p_ 2 4 (m_ 21)]) (.seq (g_ 5 [p_ 0 22 (m_ 4), p_ 1 23 (n_ 22), r_ 2 24 (l_ 23), c_ 3 25 26 [.t 24], p_ 4 26 (.un 0 (.t 25))]) (.cond (.t 26) (.seq (g_ 1 [p_ 0 2 (.mv (.c (.bool false)))]) .ret) .skip)))) (g_ 2 [p_ 0 27 (.bin 0 0 (.t 18) (i_ 1)), p_ 1 18 (m_ 27)]))))))) (.seq (.seq (g_ 3 [p_ 0 28 (f_ 0 1), r_ 1 29 (l_ 28), p_ 2 30 (.bin 3 5 (.t 29) (i_ 0))]) (.cond (.t 30) (.seq (g_ 1 [p_ 0 2 (.mv (.c (.bool true)))]) .ret) .skip)) (.seq (h_ 20 [p_ 0 31 (f_ 8 1), r_ 1 32 (l_ 31), c_ 2 33 54 [.t 32], p_ 3 34 (m_ 33), pg_ 4 35 34 true (f_ 8 1), rg_ 5 36 34 true (l_ 35), pg_ 6 37 34 true (.ixs 5 (.t 36) (i_ 0)), pg_ 7 38 34 true (f_ 0 37), rg_ 8 39 34 true (l_ 38), pg_ 9 40 34 true (f_ 7 1), rg_ 10 41 34 true (l_ 40), pg_ 11 42 34 true (.bin 3 4 (.t 39) (.t 41)), p_ 12 43 (.pick (.t 34) (.t 42) (.c (.bool false))), p_ 13 44 (m_ 43), pg_ 14 45 44 true (f_ 8 1), rg_ 15 46 44 true (l_ 45), cg_ 16 47 44 true 55 [(.t 46), (.f 56)], pg_ 17 48 44 true (.un 0 (.t 47)), p_ 18 49 (.pick (.t 44) (.t 48) (.c (.bool false))), p_ 19 2 (m_ 49)]) .ret)))))
theorem ts30_g : ts_Good 30 ts30 := ⟨by kernel_rfl, by kernel_rfl⟩
def ts31 : XF := .mk 16 (.one 2) (.seq (g_ 2 [e_ 0 1 (.box 25 (.t 0)), p_ 1 2 (.mv (.c .nilS))]) (.seq (g_ 14 [p_ 0 3 (f_ 1 1), r_ 1 4 (l_ 3), p_ 2 5 (f_ 2 1), r_ 3 6 (l_ 5), p_ 4 7 (f_ 3 1), r_ 5 8 (l_ 7), p_ 6 9 (f_ 4 1), r_ 7 10 (l_ 9), p_ 8 11 (f_ 5 1), r_ 9 12 (l_ 11), p_ 10 13 (f_ 6 1), r_ 11 14 (l_ 13), e_ 12 15 (.bsl 3 1 6 [(o_ 0), (o_ 0), (o_ 0), (o_ 0), (o_ 0), (o_ 0)] [(0, 1), (1, 1), (2, 1), (3, 1), (4, 1), (5, 1)] [(.t 4), (.t 6), (.t 8), (.t 10), (.t 12), (.t 14)]), p_ 13 2 (m_ 15)]) .ret))
theorem ts31_g : ts_Good 31 ts31 := ⟨by kernel_rfl, by kernel_rfl⟩
def ts33 : XF := .mk 59 (.one 4) (.seq (g_ 3 [e_ 0 2 (.box 36 (.t 0)), e_ 1 3 (.box 36 (.t 1)), p_ 2 4 (.mv (.c (.bool false)))]) (.seq (g_ 55 [p_ 0 5 (f_ 0 2), r_ 1 6 (l_ 5), p_ 2 7 (f_ 0 3), r_ 3 8 (l_ 7), c_ 4 9 61 [(.t 6), (.t 8)], p_ 5 10 (m_ 9), pg_ 6 11 10 true (f_ 1 2), rg_ 7 12 10 true (l_ 11), pg_ 8 13 10 true (f_ 1 3), rg_ 9 14 10 true (l_ 13), pg_ 10 15 10 true (.bin 3 4 (.t 12) (.t 14)), p_ 11 16 (.pick (.t 10) (.t 15) (.c (.bool false))), p_ 12 17 (m_ 16), pg_ 13 18 17 true (f_ 2 2), rg_ 14 19 17 true (l_ 18), pg_ 15 20 17 true (f_ 2 3), rg_ 16 21 17 true (l_ 20), pg_ 17 22 17 true (.bin 3 4 (.t 19) (.t 21)), p_ 18 23 (.pick (.t 17) (.t 22) (.c (.bool false))), p_ 19 24 (m_ 23), pg_ 20 25 24 true (f_ 3 2), rg_ 21 26 24 true (l_ 25), pg_ 22 27 24 true (f_ 3 3), rg_ 23 28 24 true (l_ 27), pg_ 24 29 24 true (.bin 3 4 (.t 26) (.t 28)), p_ 25 30 (.pick (.t 24) (.t 29) (.c (.bool false))), p_ 26 31 (m_ 30), pg_ 27 32 31 true (f_ 4 2), rg_ 28 33 31 true (l_ 32), pg_ 29 34 31 true (f_ 4 3), rg_ 30 35 31 true (l_ 34), pg_ 31 36 31 true (.bin 3 4 (.t 33) (.t 35)), p_ 32 37 (.pick (.t 31) (.t 36) (.c (.bool false))), p_ 33 38 (m_ 37), pg_ 34 39 38 true (f_ 5 2), rg_ 35 40 38 true (l_ 39), pg_ 36 41 38 true (f_ 5 3), rg_ 37 42 38 true (l_ 41), pg_ 38 43 38 true (.bin 3 4 (.t 40) (.t 42)), p_ 39 44 (.pick (.t 38) (.t 43) (.c (.bool false))), p_ 40 45 (m_ 44), pg_ 41 46 45 true (f_ 6 2), rg_ 42 47 45 true (l_ 46), pg_ 43 48 45 true (f_ 6 3), rg_ 44 49 45 true (l_ 48), pg_ 45 50 45 true (.bin 3 4 (.t 47) (.t 49)), p_ 46 51 (.pick (.t 45) (.t 50) (.c (.bool false))), p_ 47 52 (m_ 51), pg_ 48 53 52 true (f_ 7 2), rg_ 49 54 52 true (l_ 53), pg_ 50 55 52 true (f_ 7 3), rg_ 51 56 52 true (l_ 55), pg_ 52 57 52 true (.bin 3 4 (.t 54) (.t 56)), p_ 53 58 (.pick (.t 52) (.t 57) (.c (.bool false))), p_ 54 4 (m_ 58)]) .ret))
theorem ts33_g : ts_Good 33 ts33 := ⟨by kernel_rfl, by kernel_rfl⟩
def ts35 : XF := .mk 66 (.one 4) (.seq (g_ 3 [e_ 0 2 (.box 52 (.t 0)), e_ 1 3 (.box 52 (.t 1)), p_ 2 4 (.mv (.c (.bool false)))]) (.seq (g_ 62 [p_ 0 5 (f_ 0 2), r_ 1 6 (l_ 5), p_ 2 7 (f_ 0 3), r_ 3 8 (l_ 7), p_ 4 9 (.bin 3 4 (.t 6) (.t 8)), p_ 5 10 (m_ 9), pg_ 6 11 10 true (f_ 1 2), rg_ 7 12 10 true (l_ 11), pg_ 8 13 10 true (f_ 1 3), rg_ 9 14 10 true (l_ 13), pg_ 10 15 10 true (.bin 3 4 (.t 12) (.t 14)), p_ 11 16 (.pick (.t 10) (.t 15) (.c (.bool false))), p_ 12 17 (m_ 16), pg_ 13 18 17 true (f_ 2 2), rg_ 14 19 17 true (l_ 18), pg_ 15 20 17 true (f_ 2 3), rg_ 16 21 17 true (l_ 20), pg_ 17 22 17 true (.bin 3 4 (.t 19) (.t 21)), p_ 18 23 (.pick (.t 17) (.t 22) (.c (.bool false))), p_ 19 24 (m_ 23), pg_ 20 25 24 true (f_ 3 2), rg_ 21 26 24 true (l_ 25), pg_ 22 27 24 true (f_ 3 3), rg_ 23 28 24 true (l_ 27), pg_ 24 29 24 true (.bin 3 4 (.t 26) (.t 28)), p_ 25 30 (.pick (.t 24) (.t 29) (.c (.bool false))), p_ 26 31 (m_ 30), pg_ 27 32 31 true (f_ 4 2), rg_ 28 33 31 true (l_ 32), pg_ 29 34 31 true (f_ 4 3), rg_ 30 35 31 true (l_ 34), pg_ 31 36 31 true (.bin 3 4 (.t 33) (.t 35)), p_ 32 37 (.pick (.t 31) (.t 36) (.c (.bool false))), p_ 33 38 (m_ 37), pg_ 34 39 38 true (f_ 5 2), rg_ 35 40 38 true (l_ 39), pg_ 36 41 38 true (f_ 5 3), rg_ 37 42 38 true (l_ 41), pg_ 38 43 38 true (.bin 3 4 (.t 40) (.t 42)), p_ 39 44 (.pick (.t 38) (.t 43) (.c (.bool false))), p_ 40 45 (m_ 44), pg_ 41 46 45 true (f_ 6 2), rg_ 42 47 45 true (l_ 46), pg_ 43 48 45 true (f_ 6 3), rg_ 44 49 45 true (l_ 48), pg_ 45 50 45 true (.bin 3 4 (.t 47) (.t 49)), p_ 46 51 (.pick (.t 45) (.t 50) (.c (.bool false))), p_ 47 52 (m_ 51), pg_ 48 53 52 true (f_ 7 2), rg_ 49 54 52 true (l_ 53), pg_ 50 55 52 true (f_ 7 3), rg_ 51 56 52 true (l_ 55), pg_ 52 57 52 true (.bin 3 4 (.t 54) (.t 56)), p_ 53 58 (.pick (.t 52) (.t 57) (.c (.bool false))), p_ 54 59 (m_ 58), pg_ 55 60 59 true (f_ 8 2), rg_ 56 61 59 true (l_ 60), pg_ 57 62 59 true (f_ 8 3), rg_ 58 63 59 true (l_ 62), cg_ 59 64 59 true 62 [(.t 61), (.t 63)], p_ 60 65 (.pick (.t 59) (.t 64) (.c (.bool false))), p_ 61 4 (m_ 65)]) .ret))
theorem ts35_g : ts_Good 35 ts35 := ⟨by kernel_rfl, by kernel_rfl⟩
def ts36 : XF := .mk 66 (.one 4) (.seq (g_ 3 [e_ 0 2 (.box 69 (.t 0)), e_ 1 3 (.box 69 (.t 1)), p_ 2 4 (.mv (.c (.bool false)))]) (.seq (g_ 62 [p_ 0 5 (f_ 0 2), r_ 1 6 (l_ 5), p_ 2 7 (f_ 0 3), r_ 3 8 (l_ 7), p_ 4 9 (.bin 3 4 (.t 6) (.t 8)), p_ 5 10 (m_ 9), pg_ 6 11 10 true (f_ 1 2), rg_ 7 12 10 true (l_ 11), pg_ 8 13 10 true (f_ 1 3), rg_ 9 14 10 true (l_ 13), pg_ 10 15 10 true (.bin 3 4 (.t 12) (.t 14)), p_ 11 16 (.pick (.t 10) (.t 15) (.c (.bool false))), p_ 12 17 (m_ 16), pg_ 13 18 17 true (f_ 2 2), rg_ 14 19 17 true (l_ 18), pg_ 15 20 17 true (f_ 2 3), rg_ 16 21 17 true (l_ 20), pg_ 17 22 17 true (.bin 3 4 (.t 19) (.t 21)), p_ 18 23 (.pick (.t 17) (.t 22) (.c (.bool false))), p_ 19 24 (m_ 23), pg_ 20 25 24 true (f_ 3 2), rg_ 21 26 24 true (l_ 25), pg_ 22 27 24 true (f_ 3 3), rg_ 23 28 24 true (l_ 27), pg_ 24 29 24 true (.bin 3 4 (.t 26) (.t 28)), p_ 25 30 (.pick (.t 24) (.t 29) (.c (.bool false))), p_ 26 31 (m_ 30), pg_ 27 32 31 true (f_ 4 2), rg_ 28 33 31 true (l_ 32), pg_ 29 34 31 true (f_ 4 3), rg_ 30 35 31 true (l_ 34), pg_ 31 36 31 true (.bin 3 4 (.t 33) (.t 35)), p_ 32 37 (.pick (.t 31) (.t 36) (.c (.bool false))), p_ 33 38 (m_ 37), pg_ 34 39 38 true (f_ 5 2), rg_ 35 40 38 true (l_ 39), pg_ 36 41 38 true (f_ 5 3), rg_ 37 42 38 true (l_ 41), pg_ 38 43 38 true (.bin 3 4 (.t 40) (.t 42)), p_ 39 44 (.pick (.t 38) (.t 43) (.c (.bool false))), p_ 40 45 (m_ 44), pg_ 41 46 45 true (f_ 6 2), rg_ 42 47 45 true (l_ 46), pg_ 43 48 45 true (f_ 6 3), rg_ 44 49 45 true (l_ 48), pg_ 45 50 45 true (.bin 3 4 (.t 47) (.t 49)), p_ 46 51 (.pick (.t 45) (.t 50) (.c (.bool false))), p_ 47 52 (m_ 51), pg_ 48 53 52 true (f_ 7 2), rg_ 49 54 52 true (l_ 53), pg_ 50 55 52 true (f_ 7 3), rg_ 51 56 52 true (l_ 55), pg_ 52 57 52 true (.bin 3 4 (.t 54) (.t 56)), p_ 53 58 (.pick (.t 52) (.t 57) (.c (.bool false))), p_ 54 59 (m_ 58), pg_ 55 60 59 true (f_ 8 2), rg_ 56 61 59 true (l_ 60), pg_ 57 62 59 true (f_ 8 3), rg_ 58 63 59 true (l_ 62), cg_ 59 64 59 true 63 [(.t 61), (.t 63)], p_ 60 65 (.pick (.t 59) (.t 64) (.c (.bool false))), p_ 61 4 (m_ 65)]) .ret))
theorem ts36_g : ts_Good 36 ts36 := ⟨by kernel_rfl, by kernel_rfl⟩
def ts41 : XF := .mk 8 (.one 4) (.seq (g_ 1 [p_ 0 4 (.mv (.c (.str [])))]) (.seq (g_ 4 [p_ 0 5 (m_ 0), p_ 1 6 (m_ 1), c_ 2 7 67 [(.t 5), (.t 6)], p_ 3 4 (m_ 7)]) .ret))
theorem ts41_g : ts_Good 41 ts41 := ⟨by kernel_rfl, by kernel_rfl⟩
def ts42 : XF := .mk 14 (.one 2) (.seq (g_ 1 [p_ 0 2 (.mv (.c (.str [])))]) (.seq (g_ 3 [p_ 0 4 (.bld [(.str []), (.str []), (.str []), (.str []), (.str []), (.str []), (.str []), (.str []), (.str []), (.str []), (.str []), (.str [])] [(0, 1), (1, 1), (2, 1), (3, 1), (4, 1), (5, 1), (6, 1), (7, 1), (8, 1), (9, 1), (10, 1), (11, 1)] [(.c (.str [105, 110, 118, 111, 107, 101])), (.c (.str [115, 108, 97, 121])), (.c (.str [100, 101, 108, 105, 118, 101, 114])), (.c (.str [100, 114, 111, 112])), (.c (.str [116, 119, 105, 99, 101])), (.c (.str [115, 112, 111, 105, 108])), (.c (.str [116, 105, 99, 107])), (.c (.str [115, 117, 115, 112, 101, 99, 116])), (.c (.str [99, 114, 97, 115, 104])), (.c (.str [114, 101, 115, 116, 97, 114, 116])), (.c (.str [106, 111, 105, 110])), (.c (.str [108, 101, 97, 118, 101]))]), e_ 1 3 (.al 125 [(.str []), (.str []), (.str []), (.str []), (.str []), (.str []), (.str []), (.str []), (.str []), (.str []), (.str []), (.str [])]), e0_ 2 (.st 12 (.t 3) (.t 4))]) (.seq (.seq (g_ 6 [p_ 0 5 (m_ 0), p_ 1 6 (.bin 3 0 (.t 5) (i_ 0)), p_ 2 7 (m_ 6), pg_ 3 8 7 false (m_ 0), pg_ 4 9 7 false (.bin 3 3 (.t 8) (i_ 12)), p_ 5 10 (.pick (.t 7) (.c (.bool true)) (.t 9))]) (.cond (.t 10) (.seq (g_ 1 [p_ 0 2 (.mv (.c (.str [])))]) .ret) .skip)) (.seq (g_ 4 [p_ 0 11 (m_ 0), p_ 1 12 (.ixa 12 1 (.t 3) (.t 11)), r_ 2 13 (l_ 12), p_ 3 2 (m_ 13)]) .ret))))
theorem ts42_g : ts_Good 42 ts42 := ⟨by kernel_rfl, by kernel_rfl⟩
def ts43 : XF := .mk 47 (.one 2) (.seq (g_ 1 [p_ 0 2 (.mv (.c .nilS))]) (.seq (.seq (g_ 4 [p_ 0 3 (m_ 0), p_ 1 4 (n_ 3), p_ 2 5 (f_ 0 4), r_ 3 6 (l_ 5)]) (.block 2 (.seq (g_ 2 [p_ 0 8 (.bin 3 4 (.t 6) (i_ 0)), p_ 1 7 (m_ 8)]) (.cond (.t 7) (.seq (h_ 8 [p_ 0 9 (m_ 0), p_ 1 10 (n_ 9), p_ 2 11 (f_ 1 10), p_ 3 12 (m_ 0), p_ 4 13 (n_ 12), p_ 5 14 (f_ 5 13), e_ 6 15 (.bsl 78 1 2 [.nilP, .nilP] [(0, 1), (1, 1)] [(.t 11), (.t 14)]), p_ 7 2 (m_ 15)]) .ret) (.seq (.seq (g_ 2 [p_ 0 17 (.bin 3 4 (.t 6) (i_ 1)), p_ 1 16 (m_ 17)]) (.cond (.t 16) .skip (g_ 2 [p_ 0 18 (.bin 3 4 (.t 6) (i_ 7)), p_ 1 16 (m_ 18)]))) (.cond (.t 16) (.seq (h_ 8 [p_ 0 19 (m_ 0), p_ 1 20 (n_ 19), p_ 2 21 (f_ 1 20), p_ 3 22 (m_ 0), p_ 4 23 (n_ 22), p_ 5 24 (f_ 2 23), e_ 6 25 (.bsl 78 1 2 [.nilP, .nilP] [(0, 1), (1, 1)] [(.t 21), (.t 24)]), p_ 7 2 (m_ 25)]) .ret) (.seq (.seq (g_ 2 [p_ 0 27 (.bin 3 4 (.t 6) (i_ 2)), p_ 1 26 (m_ 27)]) (.cond (.t 26) .skip (.seq (g_ 2 [p_ 0 28 (.bin 3 4 (.t 6) (i_ 3)), p_ 1 26 (m_ 28)]) (.cond (.t 26) .skip (g_ 2 [p_ 0 29 (.bin 3 4 (.t 6) (i_ 4)), p_ 1 26 (m_ 29)]))))) (.cond (.t 26) (.seq (g_ 5 [p_ 0 30 (m_ 0), p_ 1 31 (n_ 30), p_ 2 32 (f_ 3 31), e_ 3 33 (.bsl 78 1 1 [.nilP] [(0, 1)] [.t 32]), p_ 4 2 (m_ 33)]) .ret) (.seq (g_ 2 [p_ 0 35 (.bin 3 4 (.t 6) (i_ 5)), p_ 1 34 (m_ 35)]) (.cond (.t 34) (.seq (h_ 8 [p_ 0 36 (m_ 0), p_ 1 37 (n_ 36), p_ 2 38 (f_ 3 37), p_ 3 39 (m_ 0), p_ 4 40 (n_ 39), p_ 5 41 (f_ 4 40), e_ 6 42 (.bsl 78 1 2 [.nilP, .nilP] [(0, 1), (1, 1)] [(.t 38), (.t 41)]), p_ 7 2 (m_ 42)]) .ret) .skip)))))))))) (.seq (g_ 5 [p_ 0 43 (m_ 0), p_ 1 44 (n_ 43), p_ 2 45 (f_ 1 44), e_ 3 46 (.bsl 78 1 1 [.nilP] [(0, 1)] [.t 45]), p_ 4 2 (m_ 46)]) .ret)))
theorem ts43_g : ts_Good 43 ts43 := ⟨by kernel_rfl, by kernel_rfl⟩
def ts48 : XF := .mk 2 (.one 0) (.seq (g_ 1 [p_ 0 0 (.mv (.c .nilS))]) (.seq (g_ 2 [e_ 0 1 (.bsl 9 1 7 [(.str []), (.str []), (.str []), (.str []), (.str []), (.str []), (.str [])] [(0, 1), (1, 1), (2, 1), (3, 1), (4, 1), (5, 1), (6, 1)] [(.c (.str [99, 108, 105, 101, 110, 116, 115])), (.c (.str [119, 105, 110, 100, 111, 119])), (.c (.str [100, 101, 97, 100, 108, 105, 110, 101])), (.c (.str [112, 97, 99, 101])), (.c (.str [97, 103, 97, 105, 110])), (.c (.str [98, 97, 103])), (.c (.str [102, 105, 114, 115, 116]))]), p_ 1 0 (m_ 1)]) .ret))
theorem ts48_g : ts_Good 48 ts48 := ⟨by kernel_rfl, by kernel_rfl⟩
def ts49 : XF := .mk 24 (.two 2 3) (.seq (g_ 2 [p_ 0 2 (.mv (.c (.str []))), p_ 1 3 (.mv (.c (.str [])))]) (.seq (g_ 2 [e_ 0 6 (.bsl 9 1 12 [(.str []), (.str []), (.str []), (.str []), (.str []), (.str []), (.str []), (.str []), (.str []), (.str []), (.str []), (.str [])] [(0, 1), (1, 1), (2, 1), (3, 1), (4, 1), (5, 1), (6, 1), (7, 1), (8, 1), (9, 1), (10, 1), (11, 1)] [(.c (.str [105, 110, 118, 111, 107, 101])), (.c (.str [115, 108, 97, 121])), (.c (.str [100, 101, 108, 105, 118, 101, 114])), (.c (.str [100, 114, 111, 112])), (.c (.str [116, 119, 105, 99, 101])), (.c (.str [115, 112, 111, 105, 108])), (.c (.str [116, 105, 99, 107])), (.c (.str [115, 117, 115, 112, 101, 99, 116])), (.c (.str [99, 114, 97, 115, 104])), (.c (.str [114, 101, 115, 116, 97, 114, 116])), (.c (.str [106, 111, 105, 110])), (.c (.str [108, 101, 97, 118, 101]))]), p_ 1 4 (m_ 6)]) (.seq (g_ 2 [e_ 0 7 (.bsl 9 1 12 [(.str []), (.str []), (.str []), (.str []), (.str []), (.str []), (.str []), (.str []), (.str []), (.str []), (.str []), (.str [])] [(0, 1), (1, 1), (2, 1), (3, 1), (4, 1), (5, 1), (6, 1), (7, 1), (8, 1), (9, 1), (10, 1), (11, 1)] [(.c (.str [120, 109])), (.c (.str [120, 121])), (.c (.str [105])), (.c (.str [105])), (.c (.str [105])), (.c (.str [105, 97, 107])), (.c (.str [120])), (.c (.str [120, 121])), (.c (.str [120])), (.c (.str [120])), (.c (.str [120])), (.c (.str [120]))]), p_ 1 5 (m_ 7)]) (.seq (.seq (g_ 8 [p_ 0 8 (m_ 0), p_ 1 9 (.bin 3 0 (.t 8) (i_ 0)), p_ 2 10 (m_ 9), pg_ 3 11 10 false (m_ 0), pg_ 4 12 10 false (m_ 4), pg_ 5 13 10 false (k_ 12), pg_ 6 14 10 false (.bin 3 3 (.t 11) (.t 13)), p_ 7 15 (.pick (.t 10) (.c (.bool true)) (.t 14))]) (.cond (.t 15) (.seq (g_ 2 [p_ 0 2 (.mv (.c (.str []))), p_ 1 3 (.mv (.c (.str [])))]) .ret) .skip)) (.seq (h_ 10 [p_ 0 16 (m_ 4), p_ 1 17 (m_ 0), p_ 2 18 (.ixs 1 (.t 16) (.t 17)), r_ 3 19 (l_ 18), p_ 4 20 (m_ 5), p_ 5 21 (m_ 0), p_ 6 22 (.ixs 1 (.t 20) (.t 21)), r_ 7 23 (l_ 22), p_ 8 2 (m_ 19), p_ 9 3 (m_ 23)]) .ret)))))
theorem ts49_g : ts_Good 49 ts49 := ⟨by kernel_rfl, by kernel_rfl⟩
def ts50 : XF := .mk 29 (.one 4) (.seq (g_ 2 [e_ 0 2 (.box 69 (.t 0)), p_ 1 4 (.mv (i_ 0))]) (.seq (.seq (g_ 1 [p_ 0 5 (m_ 1)]) (.block 2 (.seq (g_ 2 [p_ 0 7 (.bin 3 4 (.t 5) (.c (.int 1 (.ofNat 120)))), p_ 1 6 (m_ 7)]) (.cond (.t 6) (.seq (g_ 3 [p_ 0 8 (f_ 1 2), r_ 1 9 (l_ 8), p_ 2 4 (m_ 9)]) .ret) (.seq (g_ 2 [p_ 0 11 (.bin 3 4 (.t 5) (.c (.int 1 (.ofNat 121)))), p_ 1 10 (m_ 11)]) (.cond (.t 10) (.seq (g_ 3 [p_ 0 12 (f_ 2 2), r_ 1 13 (l_ 12), p_ 2 4 (m_ 13)]) .ret) (.seq (g_ 2 [p_ 0 15 (.bin 3 4 (.t 5) (.c (.int 1 (.ofNat 109)))), p_ 1 14 (m_ 15)]) (.cond (.t 14) (.seq (g_ 3 [p_ 0 16 (f_ 5 2), r_ 1 17 (l_ 16), p_ 2 4 (m_ 17)]) .ret) (.seq (g_ 2 [p_ 0 19 (.bin 3 4 (.t 5) (.c (.int 1 (.ofNat 105)))), p_ 1 18 (m_ 19)]) (.cond (.t 18) (.seq (g_ 3 [p_ 0 20 (f_ 3 2), r_ 1 21 (l_ 20), p_ 2 4 (m_ 21)]) .ret) (.seq (g_ 2 [p_ 0 23 (.bin 3 4 (.t 5) (.c (.int 1 (.ofNat 97)))), p_ 1 22 (m_ 23)]) (.cond (.t 22) (.seq (g_ 3 [p_ 0 24 (f_ 4 2), r_ 1 25 (l_ 24), p_ 2 4 (m_ 25)]) .ret) .skip)))))))))))) (.seq (g_ 4 [p_ 0 26 (f_ 6 2), r_ 1 27 (l_ 26), p_ 2 28 (.cnv 0 (.t 27)), p_ 3 4 (m_ 28)]) .ret)))
theorem ts50_g : ts_Good 50 ts50 := ⟨by kernel_rfl, by kernel_rfl⟩
def ts52 : XF := .mk 19 (.one 4) (.seq (g_ 1 [p_ 0 4 (.mv (i_ 0))]) (.seq (.seq (g_ 3 [p_ 0 6 (m_ 0), p_ 1 7 (k_ 6), p_ 2 8 (.mv (i_ 0))]) (.block 2 (.loop [0, 1, 4, 5, 7, 8, 9, 10, 11, 12, 13, 14, 15, 16, 17, 18] (.seq (g_ 1 [p_ 0 9 (.bin 3 0 (.t 8) (.t 7))]) (.seq (.cond (.t 9) .skip (.exit 2)) (.seq (.block 3 (.seq (g_ 2 [p_ 0 10 (m_ 8), p_ 1 5 (m_ 10)]) (.seq (g_ 6 [p_ 0 11 (m_ 1), p_ 1 12 (m_ 0), p_ 2 13 (m_ 5), p_ 3 14 (.ixs 9 (.t 12) (.t 13)), r_ 4 15 (.ld true 9 (.t 14)), .k 5 (some 16) none 11 29 [.t 15]]) (.cond (.t 16) (.seq (g_ 2 [p_ 0 17 (m_ 5), p_ 1 4 (m_ 17)]) .ret) .skip)))) (g_ 2 [p_ 0 18 (.bin 0 0 (.t 8) (i_ 1)), p_ 1 8 (m_ 18)]))))))) (.seq (g_ 1 [p_ 0 4 (.mv (.c (.int 0 (.negSucc 0))))]) .ret)))
theorem ts52_g : ts_Good 52 ts52 := ⟨by kernel_rfl, by kernel_rfl⟩
def ts53 : XF := .mk 45 (.cell 2 true 9) (.seq (g_ 2 [e_ 0 1 (.box 52 (.t 0)), e_ 1 2 (.al 52 [(o_ 0), (o_ 0), (o_ 0), (o_ 0), (o_ 0), (o_ 0), (.int 3 (.ofNat 0)), (.int 1 (.ofNat 0)), .nilS])]) (.seq (g_ 5 [p_ 0 7 (f_ 0 1), r_ 1 8 (l_ 7), p_ 2 9 (.bld [(o_ 0), (o_ 0), (o_ 0), (o_ 0), (o_ 0), (o_ 0), (.int 3 (.ofNat 0)), (.int 1 (.ofNat 0)), .nilS] [(0, 1)] [.t 8]), e_ 3 3 (.al 52 [(o_ 0), (o_ 0), (o_ 0), (o_ 0), (o_ 0), (o_ 0), (.int 3 (.ofNat 0)), (.int 1 (.ofNat 0)), .nilS]), e0_ 4 (.st 9 (.t 3) (.t 9))]) (.seq (g_ 4 [c_ 0 10 43 [.t 1], c_ 1 11 43 [.t 3], p_ 2 4 (m_ 10), p_ 3 5 (m_ 11)]) (.seq (.seq (g_ 3 [p_ 0 12 (m_ 5), p_ 1 13 (k_ 12), p_ 2 14 (.mv (i_ 0))]) (.block 2 (.loop [1, 2, 3, 4, 5, 6, 13, 14, 15, 16, 17, 18, 19, 20, 21, 22, 23, 24, 25, 26, 27, 28, 29, 30, 31, 32, 33, 34, 35, 36, 37, 38, 39, 40, 41, 42, 43, 44] (.seq (g_ 1 [p_ 0 15 (.bin 3 0 (.t 14) (.t 13))]) (.seq (.cond (.t 15) .skip (.exit 2)) (.seq (.block 3 (.seq (g_ 2 [p_ 0 16 (m_ 14), p_ 1 6 (m_ 16)]) (h_ 12 [p_ 0 17 (m_ 5), p_ 1 18 (m_ 6), p_ 2 19 (.ixs 1 (.t 17) (.t 18)), r_ 3 20 (l_ 19), p_ 4 21 (m_ 4), p_ 5 22 (m_ 6), p_ 6 23 (.ixs 1 (.t 21) (.t 22)), r_ 7 24 (l_ 23), p_ 8 25 (n_ 24), r_ 9 26 (l_ 25), p_ 10 27 (n_ 20), e0_ 11 (.st 1 (.t 27) (.t 26))]))) (g_ 2 [p_ 0 28 (.bin 0 0 (.t 14) (i_ 1)), p_ 1 14 (m_ 28)]))))))) (.seq (.seq (g_ 2 [p_ 0 29 (f_ 0 1), r_ 1 30 (l_ 29)]) (.block 4 (.seq (g_ 2 [p_ 0 32 (.bin 3 4 (.t 30) (i_ 5)), p_ 1 31 (m_ 32)]) (.cond (.t 31) (g_ 4 [p_ 0 33 (f_ 6 1), r_ 1 34 (l_ 33), p_ 2 35 (f_ 6 3), e0_ 3 (.st 1 (.t 35) (.t 34))]) (.seq (g_ 2 [p_ 0 37 (.bin 3 4 (.t 30) (i_ 0)), p_ 1 36 (m_ 37)]) (.cond (.t 36) (g_ 8 [p_ 0 38 (f_ 7 1), r_ 1 39 (l_ 38), p_ 2 40 (f_ 8 1), r_ 3 41 (l_ 40), p_ 4 42 (f_ 7 3), e0_ 5 (.st 1 (.t 42) (.t 39)), p_ 6 43 (f_ 8 3), e0_ 7 (.st 1 (.t 43) (.t 41))]) .skip)))))) (.seq (g_ 2 [r_ 0 44 (.ld true 9 (.t 3)), e0_ 1 (.st 9 (.t 2) (.t 44))]) .ret))))))
theorem ts53_g : ts_Good 53 ts53 := ⟨by kernel_rfl, by kernel_rfl⟩
def ts54 : XF := .mk 14 (.one 2) (.seq (g_ 1 [p_ 0 2 (.mv (.c (.bool false)))]) (.seq (.seq (g_ 8 [p_ 0 3 (m_ 0), p_ 1 4 (k_ 3), p_ 2 5 (.bin 3 0 (.t 4) (i_ 1)), p_ 3 6 (m_ 5), pg_ 4 7 6 false (m_ 0), pg_ 5 8 6 false (k_ 7), pg_ 6 9 6 false (.bin 3 2 (.t 8) (i_ 4)), p_ 7 10 (.pick (.t 6) (.c (.bool true)) (.t 9))]) (.cond (.t 10) (.seq (g_ 1 [p_ 0 2 (.mv (.c (.bool false)))]) .ret) .skip)) (.seq (g_ 4 [p_ 0 11 (m_ 0), c_ 1 12 55 [(.t 11), (.f 72)], p_ 2 13 (.un 0 (.t 12)), p_ 3 2 (m_ 13)]) .ret)))
theorem ts54_g : ts_Good 54 ts54 := ⟨by kernel_rfl, by kernel_rfl⟩
def ts55 : XF := .mk 9 (.one 4) (.seq (g_ 1 [p_ 0 4 (.mv (.c (.bool false)))]) (.seq (g_ 5 [p_ 0 5 (m_ 0), p_ 1 6 (m_ 1), c_ 2 7 74 [(.t 5), (.t 6)], p_ 3 8 (.bin 3 3 (.t 7) (i_ 0)), p_ 4 4 (m_ 8)]) .ret))
theorem ts55_g : ts_Good 55 ts55 := ⟨by kernel_rfl, by kernel_rfl⟩
def ts56 : XF := .mk 6 (.one 2) (.seq (g_ 2 [e_ 0 1 (.box 100 (.t 0)), p_ 1 2 (.mv (.c (.bool false)))]) (.seq (g_ 4 [r_ 0 3 (.ld true 5 (.t 1)), c_ 1 4 57 [.t 3], p_ 2 5 (.un 0 (.t 4)), p_ 3 2 (m_ 5)]) .ret))
theorem ts56_g : ts_Good 56 ts56 := ⟨by kernel_rfl, by kernel_rfl⟩
def ts58 : XF := .mk 32 (.cell 6 true 9) (.seq (g_ 2 [e_ 0 3 (.box 69 (.t 0)), e_ 1 6 (.al 69 [(o_ 0), (o_ 0), (o_ 0), (o_ 0), (o_ 0), (o_ 0), (.int 3 (.ofNat 0)), (.int 1 (.ofNat 0)), .nilS])]) (.seq (.seq (g_ 1 [p_ 0 7 (m_ 1)]) (.block 2 (.seq (g_ 2 [p_ 0 12 (.bin 3 4 (.t 7) (.c (.int 1 (.ofNat 120)))), p_ 1 11 (m_ 12)]) (.cond (.t 11) (g_ 3 [p_ 0 13 (m_ 2), p_ 1 14 (f_ 1 3), e0_ 2 (.st 1 (.t 14) (.t 13))]) (.seq (g_ 2 [p_ 0 16 (.bin 3 4 (.t 7) (.c (.int 1 (.ofNat 121)))), p_ 1 15 (m_ 16)]) (.cond (.t 15) (g_ 3 [p_ 0 17 (m_ 2), p_ 1 18 (f_ 2 3), e0_ 2 (.st 1 (.t 18) (.t 17))]) (.seq (g_ 2 [p_ 0 20 (.bin 3 4 (.t 7) (.c (.int 1 (.ofNat 109)))), p_ 1 19 (m_ 20)]) (.cond (.t 19) (g_ 3 [p_ 0 21 (m_ 2), p_ 1 22 (f_ 5 3), e0_ 2 (.st 1 (.t 22) (.t 21))]) (.seq (g_ 2 [p_ 0 24 (.bin 3 4 (.t 7) (.c (.int 1 (.ofNat 105)))), p_ 1 23 (m_ 24)]) (.cond (.t 23) (g_ 3 [p_ 0 25 (m_ 2), p_ 1 26 (f_ 3 3), e0_ 2 (.st 1 (.t 26) (.t 25))]) (.seq (g_ 2 [p_ 0 28 (.bin 3 4 (.t 7) (.c (.int 1 (.ofNat 97)))), p_ 1 27 (m_ 28)]) (.cond (.t 27) (g_ 3 [p_ 0 29 (m_ 2), p_ 1 30 (f_ 4 3), e0_ 2 (.st 1 (.t 30) (.t 29))]) (g_ 4 [p_ 0 8 (m_ 2), p_ 1 9 (.cnv 3 (.t 8)), p_ 2 10 (f_ 6 3), e0_ 3 (.st 1 (.t 10) (.t 9))]))))))))))))) (.seq (g_ 2 [r_ 0 31 (.ld true 9 (.t 3)), e0_ 1 (.st 9 (.t 6) (.t 31))]) .ret)))
theorem ts58_g : ts_Good 58 ts58 := ⟨by kernel_rfl, by kernel_rfl⟩
def ts62 : XF := .mk 8 (.one 4) (.seq (g_ 1 [p_ 0 4 (.mv (.c (.bool false)))]) (.seq (g_ 4 [p_ 0 5 (m_ 0), p_ 1 6 (m_ 1), c_ 2 7 78 [(.t 5), (.t 6)], p_ 3 4 (m_ 7)]) .ret))
theorem ts62_g : ts_Good 62 ts62 := ⟨by kernel_rfl, by kernel_rfl⟩
def ts64 : XF := .mk 14 (.cell 2 true 5) (.seq (g_ 2 [e_ 0 1 (.box 100 (.t 0)), e_ 1 2 (.al 111 [(.int 1 (.ofNat 0)), (.int 1 (.ofNat 0)), (.str []), (.str []), (o_ 0)])]) (.seq (g_ 12 [p_ 0 3 (f_ 0 1), r_ 1 4 (l_ 3), p_ 2 5 (f_ 1 1), r_ 3 6 (l_ 5), p_ 4 7 (f_ 2 1), r_ 5 8 (l_ 7), p_ 6 9 (f_ 3 1), r_ 7 10 (l_ 9), p_ 8 11 (f_ 4 1), r_ 9 12 (l_ 11), p_ 10 13 (.bld [(.int 1 (.ofNat 0)), (.int 1 (.ofNat 0)), (.str []), (.str []), (o_ 0)] [(0, 1), (1, 1), (2, 1), (3, 1), (4, 1)] [(.t 4), (.t 6), (.t 8), (.t 10), (.t 12)]), e0_ 11 (.st 5 (.t 2) (.t 13))]) .ret))
theorem ts64_g : ts_Good 64 ts64 := ⟨by kernel_rfl, by kernel_rfl⟩
def ts67 : XF := .mk 32 (.one 4) (.seq (g_ 1 [p_ 0 4 (.mv (.c (.str [])))]) (.seq (.seq (g_ 2 [p_ 0 9 (m_ 1), p_ 1 10 (.bin 3 4 (.t 9) (i_ 10))]) (.cond (.t 10) (.seq (.seq (g_ 2 [p_ 0 11 (m_ 0), p_ 1 12 (.bin 3 0 (.t 11) (.c (.int 4 (.ofNat 100))))]) (.cond (.t 12) (.seq (g_ 4 [p_ 0 13 (m_ 0), p_ 1 14 (.cnv 0 (.t 13)), c_ 2 15 80 [.t 14], p_ 3 4 (m_ 15)]) .ret) .skip)) (.seq (g_ 1 [e_ 0 5 (.al 132 [(.int 1 (.ofNat 0)), (.int 1 (.ofNat 0)), (.int 1 (.ofNat 0)), (.int 1 (.ofNat 0)), (.int 1 (.ofNat 0)), (.int 1 (.ofNat 0)), (.int 1 (.ofNat 0)), (.int 1 (.ofNat 0)), (.int 1 (.ofNat 0)), (.int 1 (.ofNat 0)), (.int 1 (.ofNat 0)), (.int 1 (.ofNat 0)), (.int 1 (.ofNat 0)), (.int 1 (.ofNat 0)), (.int 1 (.ofNat 0)), (.int 1 (.ofNat 0)), (.int 1 (.ofNat 0)), (.int 1 (.ofNat 0)), (.int 1 (.ofNat 0)), (.int 1 (.ofNat 0)), (.int 1 (.ofNat 0)), (.int 1 (.ofNat 0)), (.int 1 (.ofNat 0)), (.int 1 (.ofNat 0))])]) (.seq (g_ 3 [p_ 0 16 (m_ 0), c_ 1 17 81 [.t 16], p_ 2 6 (m_ 17)]) (.seq (g_ 4 [p_ 0 18 (m_ 6), p_ 1 19 .bad, p_ 2 20 (m_ 0), c_ 3 21 82 [(.t 19), (.t 20)]]) (.seq (g_ 4 [p_ 0 22 (m_ 6), p_ 1 23 .bad, p_ 2 24 .bad, p_ 3 4 (m_ 24)]) .ret))))) .skip)) (.seq (g_ 8 [p_ 0 26 (m_ 0), p_ 1 27 (m_ 1), c_ 2 28 83 [(.c .nilS), (.t 26), (.t 27), (.c (.bool false)), (.c (.bool false))], p_ 3 25 (m_ 28), p_ 4 29 (.ext 0 (.t 25)), p_ 5 30 (.ext 1 (.t 25)), p_ 6 7 (m_ 29), p_ 7 8 (m_ 30)]) (.seq (g_ 2 [p_ 0 31 (m_ 8), p_ 1 4 (m_ 31)]) .ret))))
theorem ts67_g : ts_Good 67 ts67 := ⟨by kernel_rfl, by kernel_rfl⟩
def ts71 : XF := .mk 14 (.cell 2 true 5) (.seq (g_ 2 [e_ 0 1 (.box 111 (.t 0)), e_ 1 2 (.al 100 [(.int 1 (.ofNat 0)), (.int 1 (.ofNat 0)), (.str []), (.str []), (o_ 0)])]) (.seq (g_ 12 [p_ 0 3 (f_ 0 1), r_ 1 4 (l_ 3), p_ 2 5 (f_ 1 1), r_ 3 6 (l_ 5), p_ 4 7 (f_ 2 1), r_ 5 8 (l_ 7), p_ 6 9 (f_ 3 1), r_ 7 10 (l_ 9), p_ 8 11 (f_ 4 1), r_ 9 12 (l_ 11), p_ 10 13 (.bld [(.int 1 (.ofNat 0)), (.int 1 (.ofNat 0)), (.str []), (.str []), (o_ 0)] [(0, 1), (1, 1), (2, 1), (3, 1), (4, 1)] [(.t 4), (.t 6), (.t 8), (.t 10), (.t 12)]), e0_ 11 (.st 5 (.t 2) (.t 13))]) .ret))
theorem ts71_g : ts_Good 71 ts71 := ⟨by kernel_rfl, by kernel_rfl⟩
def ts72 : XF := .mk 6 (.one 2) (.seq (g_ 2 [e_ 0 1 (.box 100 (.t 0)), p_ 1 2 (.mv (.c (.bool false)))]) (.seq (g_ 4 [r_ 0 3 (.ld true 5 (.t 1)), c_ 1 4 73 [.t 3], p_ 2 5 (.un 0 (.t 4)), p_ 3 2 (m_ 5)]) .ret))
theorem ts72_g : ts_Good 72 ts72 := ⟨by kernel_rfl, by kernel_rfl⟩
def ts78 : XF := .mk 26 (.one 4) (.seq (g_ 1 [p_ 0 4 (.mv (.c (.bool false)))]) (.seq (.seq (g_ 5 [p_ 0 6 (m_ 0), p_ 1 7 (k_ 6), p_ 2 8 (m_ 1), p_ 3 9 (k_ 8), p_ 4 10 (.bin 3 5 (.t 7) (.t 9))]) (.cond (.t 10) (.seq (g_ 1 [p_ 0 4 (.mv (.c (.bool false)))]) .ret) .skip)) (.seq (.seq (g_ 3 [p_ 0 11 (m_ 0), p_ 1 12 (k_ 11), p_ 2 13 (.mv (i_ 0))]) (.block 2 (.loop [0, 1, 4, 5, 12, 13, 14, 15, 16, 17, 18, 19, 20, 21, 22, 23, 24, 25] (.seq (g_ 1 [p_ 0 14 (.bin 3 0 (.t 13) (.t 12))]) (.seq (.cond (.t 14) .skip (.exit 2)) (.seq (.block 3 (.seq (g_ 2 [p_ 0 15 (m_ 13), p_ 1 5 (m_ 15)]) (.seq (h_ 9 [p_ 0 16 (m_ 0), p_ 1 17 (m_ 5), p_ 2 18 (.ixs 5 (.t 16) (.t 17)), r_ 3 19 (.ld true 5 (.t 18)), p_ 4 20 (m_ 1), p_ 5 21 (m_ 5), p_ 6 22 (.ixs 5 (.t 20) (.t 21)), r_ 7 23 (.ld true 5 (.t 22)), p_ 8 24 (.eqs true 2 (.st [(0, 1, false, .int), (1, 1, false, .int), (2, 1, false, .str), (3, 1, false, .str), (4, 1, false, .int)]) (.t 19) (.t 23))]) (.cond (.t 24) (.seq (g_ 1 [p_ 0 4 (.mv (.c (.bool false)))]) .ret) .skip)))) (g_ 2 [p_ 0 25 (.bin 0 0 (.t 13) (i_ 1)), p_ 1 13 (m_ 25)]))))))) (.seq (g_ 1 [p_ 0 4 (.mv (.c (.bool true)))]) .ret))))
theorem ts78_g : ts_Good 78 ts78 := ⟨by kernel_rfl, by kernel_rfl⟩
def ts85 : XF := .mk 39 (.one 2) (.seq (g_ 2 [e_ 0 1 (.box 100 (.t 0)), p_ 1 2 (.mv (.c (.bool false)))]) (.seq (.seq (g_ 2 [p_ 0 3 (f_ 1 1), r_ 1 4 (l_ 3)]) (.block 2 (.seq (.block 6 (.block 5 (.seq (.block 4 (.seq (.block 3 (.seq (.seq (.seq (g_ 2 [p_ 0 6 (.bin 3 4 (.t 4) (.c (.int 1 (.ofNat 1)))), p_ 1 5 (m_ 6)]) (.cond (.t 5) (.exit 3) .skip)) (.seq (.seq (.seq (g_ 2 [p_ 0 8 (.bin 3 4 (.t 4) (.c (.int 1 (.ofNat 2)))), p_ 1 7 (m_ 8)]) (.cond (.t 7) .skip (g_ 2 [p_ 0 9 (.bin 3 4 (.t 4) (.c (.int 1 (.ofNat 3)))), p_ 1 7 (m_ 9)]))) (.cond (.t 7) (.exit 4) .skip)) (.seq (.seq (g_ 2 [p_ 0 11 (.bin 3 4 (.t 4) (.c (.int 1 (.ofNat 0)))), p_ 1 10 (m_ 11)]) (.cond (.t 10) (.exit 5) .skip)) (.seq (g_ 2 [p_ 0 13 (.bin 3 4 (.t 4) (.c (.int 1 (.ofNat 4)))), p_ 1 12 (m_ 13)]) (.cond (.t 12) (.exit 6) .skip))))) (.exit 2))) (.seq (.seq (g_ 10 [p_ 0 14 (f_ 3 1), r_ 1 15 (l_ 14), p_ 2 16 (.len 0 (.t 15)), p_ 3 17 (.bin 3 1 (.t 16) (i_ 64)), p_ 4 18 (m_ 17), pg_ 5 19 18 true (f_ 4 1), rg_ 6 20 18 true (l_ 19), pg_ 7 21 18 true (.bin 3 4 (.t 20) (i_ 0)), p_ 8 22 (.pick (.t 18) (.t 21) (.c (.bool false))), p_ 9 2 (m_ 22)]) .ret) (.exit 2)))) (.seq (.seq (g_ 9 [p_ 0 23 (f_ 3 1), r_ 1 24 (l_ 23), p_ 2 25 (.bin 5 0 (.t 24) (.c (.str []))), p_ 3 26 (m_ 25), pg_ 4 27 26 true (f_ 4 1), rg_ 5 28 26 true (l_ 27), pg_ 6 29 26 true (.bin 3 3 (.t 28) (i_ 0)), p_ 7 30 (.pick (.t 26) (.t 29) (.c (.bool false))), p_ 8 2 (m_ 30)]) .ret) (.exit 2))))) (.seq (.seq (g_ 9 [p_ 0 31 (f_ 3 1), r_ 1 32 (l_ 31), p_ 2 33 (.bin 5 0 (.t 32) (.c (.str []))), p_ 3 34 (m_ 33), pg_ 4 35 34 true (f_ 4 1), rg_ 5 36 34 true (l_ 35), pg_ 6 37 34 true (.bin 3 4 (.t 36) (i_ 0)), p_ 7 38 (.pick (.t 34) (.t 37) (.c (.bool false))), p_ 8 2 (m_ 38)]) .ret) (.exit 2))))) (.seq (g_ 1 [p_ 0 2 (.mv (.c (.bool false)))]) .ret)))
theorem ts85_g : ts_Good 85 ts85 := ⟨by kernel_rfl, by kernel_rfl⟩
noncomputable def ts_tab (f : Nat) : Option XF := (Bool.rec (Bool.rec (Bool.rec (Bool.rec (Bool.rec (Bool.rec (Bool.rec none (some ts85) (Nat.beq f 85)) (Bool.rec none (some ts78) (Nat.beq f 78)) (Nat.blt f 85)) (Bool.rec none (some ts72) (Nat.beq f 72)) (Nat.blt f 78)) (Bool.rec (Bool.rec none (some ts71) (Nat.beq f 71)) (Bool.rec none (some ts67) (Nat.beq f 67)) (Nat.blt f 71)) (Nat.blt f 72)) (Bool.rec (Bool.rec (Bool.rec (Bool.rec none (some ts64) (Nat.beq f 64)) (Bool.rec none (some ts62) (Nat.beq f 62)) (Nat.blt f 64)) (Bool.rec none (some ts58) (Nat.beq f 58)) (Nat.blt f 62)) (Bool.rec (Bool.rec none (some ts56) (Nat.beq f 56)) (Bool.rec none (some ts55) (Nat.beq f 55)) (Nat.blt f 56)) (Nat.blt f 58)) (Nat.blt f 67)) (Bool.rec (Bool.rec (Bool.rec (Bool.rec (Bool.rec none (some ts54) (Nat.beq f 54)) (Bool.rec none (some ts53) (Nat.beq f 53)) (Nat.blt f 54)) (Bool.rec none (some ts52) (Nat.beq f 52)) (Nat.blt f 53)) (Bool.rec (Bool.rec none (some ts50) (Nat.beq f 50)) (Bool.rec none (some ts49) (Nat.beq f 49)) (Nat.blt f 50)) (Nat.blt f 52)) (Bool.rec (Bool.rec (Bool.rec (Bool.rec none (some ts48) (Nat.beq f 48)) (Bool.rec none (some ts43) (Nat.beq f 43)) (Nat.blt f 48)) (Bool.rec none (some ts42) (Nat.beq f 42)) (Nat.blt f 43)) (Bool.rec (Bool.rec none (some ts41) (Nat.beq f 41)) (Bool.rec none (some ts36) (Nat.beq f 36)) (Nat.blt f 41)) (Nat.blt f 42)) (Nat.blt f 49)) (Nat.blt f 55)) (Bool.rec (Bool.rec (Bool.rec (Bool.rec (Bool.rec (Bool.rec none (some ts35) (Nat.beq f 35)) (Bool.rec none (some ts33) (Nat.beq f 33)) (Nat.blt f 35)) (Bool.rec none (some ts31) (Nat.beq f 31)) (Nat.blt f 33)) (Bool.rec (Bool.rec none (some ts30) (Nat.beq f 30)) (Bool.rec none (some ts29) (Nat.beq f 29)) (Nat.blt f 30)) (Nat.blt f 31)) (Bool.rec (Bool.rec (Bool.rec (Bool.rec none (some ts28) (Nat.beq f 28)) (Bool.rec none (some ts27) (Nat.beq f 27)) (Nat.blt f 28)) (Bool.rec none (some ts26) (Nat.beq f 26)) (Nat.blt f 27)) (Bool.rec (Bool.rec none (some ts23) (Nat.beq f 23)) (Bool.rec none (some ts22) (Nat.beq f 22)) (Nat.blt f 23)) (Nat.blt f 26)) (Nat.blt f 29)) (Bool.rec (Bool.rec (Bool.rec (Bool.rec (Bool.rec none (some ts20) (Nat.beq f 20)) (Bool.rec none (some ts19) (Nat.beq f 19)) (Nat.blt f 20)) (Bool.rec none (some ts18) (Nat.beq f 18)) (Nat.blt f 19)) (Bool.rec (Bool.rec none (some ts16) (Nat.beq f 16)) (Bool.rec none (some ts11) (Nat.beq f 11)) (Nat.blt f 16)) (Nat.blt f 18)) (Bool.rec (Bool.rec (Bool.rec none (some ts10) (Nat.beq f 10)) (Bool.rec none (some ts8) (Nat.beq f 8)) (Nat.blt f 10)) (Bool.rec (Bool.rec none (some ts7) (Nat.beq f 7)) (Bool.rec none (some ts5) (Nat.beq f 5)) (Nat.blt f 7)) (Nat.blt f 8)) (Nat.blt f 11)) (Nat.blt f 22)) (Nat.blt f 36))
theorem ts_leaf {f n : Nat} {x y : XF} (hy : ts_Good n y) (h : (Bool.rec (motive := fun _ => Option XF) none (some y) (Nat.beq f n)) = some x) : ts_Good f x := by
  cases hb : Nat.beq f n with
  | false => rw [hb] at h; cases h
  | true => rw [hb] at h; cases h; rw [Nat.eq_of_beq_eq_true hb]; exact hy
theorem ts_node {f n : Nat} {a b : Option XF} {x : XF} (ha : a = some x → ts_Good f x) (hb : b = some x → ts_Good f x) (h : (Bool.rec (motive := fun _ => Option XF) a b (Nat.blt f n)) = some x) : ts_Good f x := by
  cases hc : Nat.blt f n with
  | false => rw [hc] at h; exact ha h
  | true => rw [hc] at h; exact hb h
theorem ts_all (f : Nat) (x : XF) (h : ts_tab f = some x) : chkF Tryd.prog f x = true ∧ plain (bodyOf x) = true := (ts_node (ts_node (ts_node (ts_node (ts_node (ts_node (ts_leaf ts85_g) (ts_leaf ts78_g)) (ts_leaf ts72_g)) (ts_node (ts_leaf ts71_g) (ts_leaf ts67_g))) (ts_node (ts_node (ts_node (ts_leaf ts64_g) (ts_leaf ts62_g)) (ts_leaf ts58_g)) (ts_node (ts_leaf ts56_g) (ts_leaf ts55_g)))) (ts_node (ts_node (ts_node (ts_node (ts_leaf ts54_g) (ts_leaf ts53_g)) (ts_leaf ts52_g)) (ts_node (ts_leaf ts50_g) (ts_leaf ts49_g))) (ts_node (ts_node (ts_node (ts_leaf ts48_g) (ts_leaf ts43_g)) (ts_leaf ts42_g)) (ts_node (ts_leaf ts41_g) (ts_leaf ts36_g))))) (ts_node (ts_node (ts_node (ts_node (ts_node (ts_leaf ts35_g) (ts_leaf ts33_g)) (ts_leaf ts31_g)) (ts_node (ts_leaf ts30_g) (ts_leaf ts29_g))) (ts_node (ts_node (ts_node (ts_leaf ts28_g) (ts_leaf ts27_g)) (ts_leaf ts26_g)) (ts_node (ts_leaf ts23_g) (ts_leaf ts22_g)))) (ts_node (ts_node (ts_node (ts_node (ts_leaf ts20_g) (ts_leaf ts19_g)) (ts_leaf ts18_g)) (ts_node (ts_leaf ts16_g) (ts_leaf ts11_g))) (ts_node (ts_node (ts_leaf ts10_g) (ts_leaf ts8_g)) (ts_node (ts_leaf ts7_g) (ts_leaf ts5_g)))))) h
theorem ts_mix : Tryd.prog.follows .mixedOrders = true := by kernel_rfl
end Go.Proofs.Tryd
namespace Go.Proofs.Tryd
open Go.Proofs.YtdangmomddpegaaDoor (na_itoa na_itoaL na_small na_fmt na_join na_write na_get)
open Go Go.RowKit Go.Sy
open Go.Eng hiding allB
set_option maxRecDepth 1000000
set_option linter.unusedVariables false
set_option maxHeartbeats 4000000
theorem natE_no {P : Program} {f k : Nat} : NatE P f k (fun _ _ _ _ => false) := fun us xs E ρ G F M nx w K R _ _ _ h => by cases h
noncomputable def tstE (b : List AV → T → Bool) (sA sB : SpecE) : SpecE := fun us M nx K => Bool.rec (sB us M nx K) (sA us M nx K) (b us M)
theorem tstE_ok {P : Program} {f k : Nat} {sA sB : SpecE} {b : List AV → T → Bool} (hA : NatE P f k sA) (hB : NatE P f k sB) : NatE P f k (tstE b sA sB) := by
  intro us xs E ρ G F M nx w K R h1 h2 h3 h4
  have h4 : (Bool.rec (motive := fun _ => Bool) (sB us M nx K) (sA us M nx K) (b us M) : Bool) = true := h4
  cases hb : b us M with
  | true => rw [hb] at h4; exact hA us xs E ρ G F M nx w K R h1 h2 h3 h4
  | false => rw [hb] at h4; exact hB us xs E ρ G F M nx w K R h1 h2 h3 h4
abbrev KE := AV → T → Nat → Bool
abbrev IE := List AV × T × Nat
abbrev IL := SL × T × Nat
noncomputable def esOf {α : Type} (I : α → IE) (sp : α → KE → Bool) : SpecE := fun us M nx K => exB fun p : α => must (prB ((us, M, nx) = I p)) (sp p K)
theorem natE_said {P : Program} (hm : P.follows .mixedOrders = true) {cf : CallF} (hcf : CallOk P cf) {lp : LpF} {lf f k : Nat} {xf : XF} {α : Type} {I : α → IE} {sp : α → KE → Bool} (hf : chkF P f xf = true) (hkp : keepB k (bodyOf xf) = true) (hlp : ∀ b j x, (b, j, x) ∈ lpsOf (bodyOf xf) → LpOk P (nOf xf) k lp b j x)
    (h : ∀ p K, sp p K = true → funE k cf lp lf xf (I p).1 (I p).2.1 (I p).2.2 K = true) : NatE P f k (esOf I sp) :=
  natE_of hm hcf hf hkp hlp fun us M nx K hk => by
    obtain ⟨p, h1⟩ := exB_ok hk
    obtain ⟨e, h2⟩ := mustP_ok h1
    have h3 := h p K h2
    rw [← e] at h3
    exact h3
noncomputable def spP {α : Type} (pre : α → Prop) (out : α → KE → Bool) (p : α) (K : KE) : Bool := must (prB (pre p)) (out p K)
noncomputable def natC (prev : Nat → List AV → Option ES) (k : Nat) (es : SpecE) (g : Nat) (l : List (Nat × Nat)) (f : Nat) (vs : List AV) : Option ES := Bool.rec (prev f vs) (some (.mk k es)) (hasS f g vs l)
def NatsOk (P : Program) (nat : Nat → List AV → Option ES) : Prop := ∀ f vs k sp, nat f vs = some (.mk k sp) → NatE P f k sp
theorem natC_ok {P : Program} {prev : Nat → List AV → Option ES} {k g : Nat} {es : SpecE} {l : List (Nat × Nat)} (h1 : NatE P g k es) (h2 : NatsOk P prev) : NatsOk P (natC prev k es g l) := fun f vs k' sp h => nat_step h1 (h2 f vs k' sp) h
noncomputable def nat0 : Nat → List AV → Option ES := fun _ _ => none
theorem nat0_ok {P : Program} : NatsOk P nat0 := fun _ _ _ _ h => by cases h
noncomputable def noLp : LpF := fun _ _ _ _ _ => false
noncomputable def mP (p : Prop) (b : Bool) : Bool := must (prB p) b
noncomputable def iP (p : Prop) (x y : Bool) : Bool := ifB (prB p) x y
theorem mI {p : Prop} {b : Bool} (h : p) (k : b = true) : mP p b = true := mustP h k
theorem iI {p : Prop} {x y : Bool} (h : p → x = true) (k : ¬ p → y = true) : iP p x y = true := ifP h k
noncomputable def useC {α β R : Type _} (s : β) (I : α → β) (pre : α → Prop) (po : α → R → Prop) (k : α → R → Bool) : Bool := exB fun p => mP (s = I p) (mP (pre p) (allB fun r => iP (po p r) (k p r) true))
theorem callPR {α β R : Type _} {s : β} {I : α → β} {pre : α → Prop} {po : α → R → Prop} {k : α → R → Bool} (w : α) (h1 : s = I w) (h2 : pre w) (h3 : ∀ r, po w r → k w r = true) : useC s I pre po k = true :=
  exB_mk w (mustP h1 (mustP h2 (allB_mk fun r => ifP (h3 r) fun _ => rfl)))
theorem callR {α R : Type} {e : α → Prop} {po : α → R → Prop} {k : α → R → Bool} (w : α) (h1 : e w) (h3 : ∀ r, po w r → k w r = true) : (exB fun p => mP (e p) (allB fun r => iP (po p r) (k p r) true)) = true :=
  exB_mk w (mustP h1 (allB_mk fun r => ifP (h3 r) fun _ => rfl))
theorem callP {α : Type} {e pre : α → Prop} {k : α → Bool} (w : α) (h1 : e w) (h2 : pre w) (h3 : k w = true) : (exB fun p => mP (e p) (mP (pre p) (k p))) = true := exB_mk w (mustP h1 (mustP h2 h3))
noncomputable abbrev cfT (nat : Nat → List AV → Option ES) : CallF := callX ts_tab nat noLp 600 40
theorem cfT_ok {nat : Nat → List AV → Option ES} (h : NatsOk Tryd.prog nat) : CallOk Tryd.prog (cfT nat) := callX_ok (lp := noLp) (lf := 600) ts_mix ts_all h 40
theorem natE_pl {nat : Nat → List AV → Option ES} (hcf : CallOk Tryd.prog (cfT nat)) {f k : Nat} {xf : XF} {α : Type} {I : α → IE} {pre : α → Prop} {out : α → KE → Bool} (hf : chkF Tryd.prog f xf = true) (hkp : keepB k (bodyOf xf) = true) (hlp : lpsOf (bodyOf xf) = [])
    (h : ∀ p K, pre p → out p K = true → funE k (cfT nat) noLp 600 xf (I p).1 (I p).2.1 (I p).2.2 K = true) : NatE Tryd.prog f k (esOf I (spP pre out)) :=
  natE_said (lp := noLp) (lf := 600) ts_mix hcf hf hkp (fun b j x h => by rw [hlp] at h; cases h) fun p K hk => h p K (mustP_ok hk).1 (mustP_ok hk).2
theorem natE_pn {nat : Nat → List AV → Option ES} (hcf : CallOk Tryd.prog (cfT nat)) {f k : Nat} {xf : XF} {α : Type} {I : α → IE} {out : α → KE → Bool} (hf : chkF Tryd.prog f xf = true) (hkp : keepB k (bodyOf xf) = true) (hlp : lpsOf (bodyOf xf) = [])
    (h : ∀ p K, out p K = true → funE k (cfT nat) noLp 600 xf (I p).1 (I p).2.1 (I p).2.2 K = true) : NatE Tryd.prog f k (esOf I out) :=
  natE_said (lp := noLp) (lf := 600) ts_mix hcf hf hkp (fun b j x h => by rw [hlp] at h; cases h) h
structure PtR where
  g : Int
  k : Int
  key : List UInt8
  val : List UInt8
  n : Int
structure GrR where
  f : Int
  s : Int
  c : Prop
structure OpR where
  kind : Int
  x : Int
  y : Int
  i : Int
  at_ : Int
  mode : Int
  mask : Int
  grp : Int
  hp : Value
  ps : List PtR
structure ScR where
  hg : Value
  gs : List GrR
  clients : Int
  window : Int
  deadline : Int
  pace : Int
  again : Int
  bag : Int
  first : Int
  ho : Value
  os : List OpR
def encP (x : PtR) : List PL := [.sint 1 x.g, .sint 1 x.k, .sstr x.key, .sstr x.val, .sint 0 x.n]
def encG (x : GrR) : List PL := [.sint 0 x.f, .sint 0 x.s, .sbool x.c]
def encO (x : OpR) : List PL := [.sint 0 x.kind, .sint 0 x.x, .sint 0 x.y, .sint 0 x.i, .sint 0 x.at_, .sint 0 x.mode, .sint 3 x.mask, .sint 1 x.grp, .imm x.hp 5 PtR x.ps encP]
theorem tk {α : Type} {l : List α} {i : Nat} {x : α} (h : l[i]? = some x) : l.take i ++ [x] = l.take (i + 1) := by rw [List.take_add_one, h]; rfl
def opk (x : OpR) : (Int × Int × Int × Int × Int × Int) × Int × Int × List PtR := ((x.kind, x.x, x.y, x.i, x.at_, x.mode), x.mask, x.grp, x.ps)
def sck (x : ScR) : List GrR × (Int × Int × Int × Int × Int × Int) × Int × List ((Int × Int × Int × Int × Int × Int) × Int × Int × List PtR) := (x.gs, (x.clients, x.window, x.deadline, x.pace, x.again, x.bag), x.first, x.os.map opk)
def okO (l : List OpR) : Prop := l.length ≤ 60 ∧ ∀ (j : Nat) (x : OpR), l[j]? = some x → x.ps.length ≤ 10
def okU (l : List OpR) (i : Int) : Prop := ∀ (j : Nat) (x : OpR), (j : Int) < i → l[j]? = some x → x.ps.length ≤ 10
theorem okU_step {l : List OpR} {i : Int} {x : OpR} (h : okU l i) (hi : 0 ≤ i) (hx : l[i.toNat]? = some x) (h2 : x.ps.length ≤ 10) : okU l (i + 1) := fun j y hj hy => by
  by_cases e : (j : Int) = i
  · have : j = i.toNat := by omega
    subst this
    rw [hx] at hy; cases hy
    exact h2
  · exact h j y (by omega) hy
theorem okO_of {l : List OpR} {i : Int} (h : okU l i) (h2 : l.length ≤ 60) (h3 : (l.length : Int) ≤ i) : okO l := ⟨h2, fun j x hx => h j x (by have := (List.getElem?_eq_some_iff.1 hx).1; omega) hx⟩
theorem okO_via {a b : ScR} {q : Prop} (e : sck a = sck b) (h : q → okO b.os) (hq : q) : okO a.os := by
  have e1 : a.os.map opk = b.os.map opk := congrArg (fun z => z.2.2.2) e
  obtain ⟨h1, h2⟩ := h hq
  have hl : a.os.length = b.os.length := by simpa using congrArg List.length e1
  refine ⟨by omega, fun j x hx => ?_⟩
  have h3 : (a.os.map opk)[j]? = some (opk x) := by simp [hx]
  rw [e1, List.getElem?_map, Option.map_eq_some_iff] at h3
  obtain ⟨y, hy, e2⟩ := h3
  have e3 : y.ps = x.ps := congrArg (fun z => z.2.2.2) e2
  rw [← e3]
  exact h2 j y hy
theorem gs_via {a b : ScR} (e : sck a = sck b) (h : b.gs.length ≤ 10) : a.gs.length ≤ 10 := by
  have e1 : a.gs = b.gs := congrArg (fun z => z.1) e
  rw [e1]; exact h
theorem take_step {α β : Type} {k : α → β} {l m : List α} {i : Int} {x y : α} (h0 : 0 ≤ i) (h : (l.take i.toNat).map k = (m.take i.toNat).map k) (hx : l[i.toNat]? = some x) (hy : m[i.toNat]? = some y) (e : k x = k y) : (l.take (i + 1).toNat).map k = (m.take (i + 1).toNat).map k := by
  rw [show (i + 1).toNat = i.toNat + 1 by omega, ← tk hx, ← tk hy, List.map_append, List.map_append, h, List.map_cons, List.map_cons, e]
theorem take_end {α β : Type} {k : α → β} {l m : List α} {i : Int} (h : (l.take i.toNat).map k = (m.take i.toNat).map k) (h1 : (l.length : Int) ≤ i) (h2 : (m.length : Int) ≤ i) : l.map k = m.map k := by
  rwa [List.take_of_length_le (by omega), List.take_of_length_le (by omega)] at h
theorem map_app {α β : Type} {k : α → β} {l m : List α} {i : Int} {x y : α} (h0 : 0 ≤ i) (h : m.map k = (l.take i.toNat).map k) (hx : l[i.toNat]? = some x) (e : k y = k x) : (m ++ [y]).map k = (l.take (i + 1).toNat).map k := by
  rw [show (i + 1).toNat = i.toNat + 1 by omega, ← tk hx, List.map_append, List.map_append, h, List.map_cons, List.map_cons, e]
theorem map_end {α β : Type} {k : α → β} {l m : List α} {i : Int} (h : m.map k = (l.take i.toNat).map k) (h1 : (l.length : Int) ≤ i) : m.map k = l.map k := by
  rwa [List.take_of_length_le (by omega)] at h
noncomputable def nat_n_itoa := natC nat0 0 (spN1 0 Lib.itoa) 40 [(0, 20)]
theorem nat_n_itoa_ok : NatsOk Tryd.prog nat_n_itoa := natC_ok na_itoa nat0_ok
noncomputable def nat_n_itoaL := natC nat_n_itoa 0 (spNL 0 100000000000000000000 tl0) 40 [(0, 1)]
theorem nat_n_itoaL_ok : NatsOk Tryd.prog nat_n_itoaL := natC_ok na_itoaL nat_n_itoa_ok
noncomputable def nat_n_small := natC nat_n_itoaL 0 (spNL 0 100 tl0) 80 [(0, 1)]
theorem nat_n_small_ok : NatsOk Tryd.prog nat_n_small := natC_ok na_small nat_n_itoaL_ok
noncomputable def nat_n_fmt := natC nat_n_small 0 (spN2 0 10 Lib.itoa) 69 []
theorem nat_n_fmt_ok : NatsOk Tryd.prog nat_n_fmt := natC_ok na_fmt nat_n_small_ok
noncomputable def nat_n_join := natC nat_n_fmt 0 spJoin 45 []
theorem nat_n_join_ok : NatsOk Tryd.prog nat_n_join := natC_ok na_join nat_n_fmt_ok
noncomputable def nat_n_write := natC nat_n_join 1 (spWrite [56]) 17 []
theorem nat_n_write_ok : NatsOk Tryd.prog nat_n_write := natC_ok na_write nat_n_join_ok
noncomputable def nat_n_get := natC nat_n_write 0 (spGet [56]) 21 []
theorem nat_n_get_ok : NatsOk Tryd.prog nat_n_get := natC_ok na_get nat_n_write_ok
def ft_knows : XF := .mk 26 (.one 0) (.seq (g_ 1 [p_ 0 0 (.mv (.c (.bool false)))]) (.seq (g_ 5 [c_ 0 4 16 [i_ 1], p_ 1 5 (.bld [.nilS, .int 0 (.ofNat 0), .int 0 (.ofNat 0), .int 0 (.ofNat 0), .int 0 (.ofNat 0), .int 0 (.ofNat 0), .int 0 (.ofNat 0), .int 4 (.ofNat 0), .nilS] [(0, 8)] [.t 4]), c_ 2 6 8 [.t 5], e_ 3 1 (.al 39 [.nilS, .int 0 (.ofNat 0), .int 0 (.ofNat 0), .int 0 (.ofNat 0), .int 0 (.ofNat 0), .int 0 (.ofNat 0), .int 0 (.ofNat 0), .int 4 (.ofNat 0), .nilS]), e0_ 4 (.st 9 (.t 1) (.t 6))]) (.seq (g_ 4 [p_ 0 7 (.bld [.int 0 (.ofNat 0), .int 0 (.ofNat 0), .int 0 (.ofNat 0), .int 0 (.ofNat 0), .int 0 (.ofNat 0), .int 0 (.ofNat 0), .int 3 (.ofNat 0), .int 1 (.ofNat 0), .nilS] [(0, 1), (3, 1), (4, 1), (6, 1)] [i_ 5, i_ 1, i_ 2, .c (.int 3 (.ofNat 3))]), e_ 1 8 (.bsl 52 9 1 [.int 0 (.ofNat 0), .int 0 (.ofNat 0), .int 0 (.ofNat 0), .int 0 (.ofNat 0), .int 0 (.ofNat 0), .int 0 (.ofNat 0), .int 3 (.ofNat 0), .int 1 (.ofNat 0), .nilS] [(0, 9)] [.t 7]), p_ 2 9 (f_ 8 1), e0_ 3 (.st 1 (.t 9) (.t 8))]) (.seq (g_ 7 [r_ 0 11 (.ld true 9 (.t 1)), c_ 1 12 7 [.t 11], p_ 2 10 (m_ 12), p_ 3 13 (.ext 0 (.t 10)), p_ 4 14 (.ext 1 (.t 10)), p_ 5 2 (m_ 13), p_ 6 3 (m_ 14)]) (.seq (g_ 12 [p_ 0 15 (m_ 3), c_ 1 16 10 [.t 15], p_ 2 17 (.bin 3 4 (.t 16) (i_ 0)), p_ 3 18 (m_ 17), pg_ 4 19 18 true (m_ 2), pg_ 5 20 18 true (.bin 5 0 (.t 19) (.c (.str [103, 114, 111, 117, 112, 32, 49, 32, 48, 32, 112, 108, 97, 105, 110, 10, 99, 108, 105, 101, 110, 116, 115, 32, 49, 10, 119, 105, 110, 100, 111, 119, 32, 52, 10, 100, 101, 97, 100, 108, 105, 110, 101, 32, 50, 48, 48, 10, 112, 97, 99, 101, 32, 49, 10, 97, 103, 97, 105, 110, 32, 53, 10, 98, 97, 103, 32, 53, 48, 48, 10, 102, 105, 114, 115, 116, 32, 49, 10, 115, 112, 111, 105, 108, 32, 49, 32, 50, 32, 51, 10]))), p_ 6 21 (.pick (.t 18) (.t 20) (.c (.bool false))), p_ 7 22 (m_ 21), rg_ 8 23 22 true (.ld true 9 (.t 1)), cg_ 9 24 22 true 11 [.t 23], p_ 10 25 (.pick (.t 22) (.t 24) (.c (.bool false))), p_ 11 0 (m_ 25)]) .ret)))))
theorem ft_knows_ok : chkF Tryd.prog 6 ft_knows = true := by kernel_rfl
abbrev A_knows := Unit
noncomputable def I_knows (p : A_knows) : IE := ([], .leaf, 0)
noncomputable def out_knows (p : A_knows) (K : KE) : Bool := K (.bool true) .leaf 0
theorem vf_knows (p : A_knows) (K : KE) (hK : out_knows p K = true) : (funE 0 (cfT nat_n_get) noLp 600 ft_knows (I_knows p).1 (I_knows p).2.1 (I_knows p).2.2 K) = true := by
  refine Eq.trans (b := (mP (InR 0 (1 : Int)) (mP (InR 0 (0 : Int)) (mP (([] : List UInt8).length + (([103, 114, 111, 117, 112, 32, 49, 32, 48, 32, 112, 108, 97, 105, 110, 10] : List Nat).map UInt8.ofNat).length ≤ 140737488355328) (mP (InR 0 (1 : Int)) (exB fun b1 : List UInt8 => mP ((([] : List UInt8) ++ (([103, 114, 111, 117, 112, 32, 49, 32, 48, 32, 112, 108, 97, 105, 110, 10] : List Nat).map UInt8.ofNat)).map encU = b1.map encU) (mP ((([] : List UInt8) ++ (([103, 114, 111, 117, 112, 32, 49, 32, 48, 32, 112, 108, 97, 105, 110, 10] : List Nat).map UInt8.ofNat)).length = b1.length) (mP (b1.length + (([99, 108, 105, 101, 110, 116, 115, 32, 49, 10] : List Nat).map UInt8.ofNat).length ≤ 140737488355328) (mP (InR 0 (4 : Int)) (exB fun b2 : List UInt8 => mP ((b1 ++ (([99, 108, 105, 101, 110, 116, 115, 32, 49, 10] : List Nat).map UInt8.ofNat)).map encU = b2.map encU) (mP ((b1 ++ (([99, 108, 105, 101, 110, 116, 115, 32, 49, 10] : List Nat).map UInt8.ofNat)).length = b2.length) (mP (b2.length + (([119, 105, 110, 100, 111, 119, 32, 52, 10] : List Nat).map UInt8.ofNat).length ≤ 140737488355328) (mP (InR 0 (200 : Int)) (exB fun b3 : List UInt8 => mP ((b2 ++ (([119, 105, 110, 100, 111, 119, 32, 52, 10] : List Nat).map UInt8.ofNat)).map encU = b3.map encU) (mP ((b2 ++ (([119, 105, 110, 100, 111, 119, 32, 52, 10] : List Nat).map UInt8.ofNat)).length = b3.length) (mP (b3.length + (([100, 101, 97, 100, 108, 105, 110, 101, 32, 50, 48, 48, 10] : List Nat).map UInt8.ofNat).length ≤ 140737488355328) (mP (InR 0 (1 : Int)) (exB fun b4 : List UInt8 => mP ((b3 ++ (([100, 101, 97, 100, 108, 105, 110, 101, 32, 50, 48, 48, 10] : List Nat).map UInt8.ofNat)).map encU = b4.map encU) (mP ((b3 ++ (([100, 101, 97, 100, 108, 105, 110, 101, 32, 50, 48, 48, 10] : List Nat).map UInt8.ofNat)).length = b4.length) (mP (b4.length + (([112, 97, 99, 101, 32, 49, 10] : List Nat).map UInt8.ofNat).length ≤ 140737488355328) (mP (InR 0 (5 : Int)) (exB fun b5 : List UInt8 => mP ((b4 ++ (([112, 97, 99, 101, 32, 49, 10] : List Nat).map UInt8.ofNat)).map encU = b5.map encU) (mP ((b4 ++ (([112, 97, 99, 101, 32, 49, 10] : List Nat).map UInt8.ofNat)).length = b5.length) (mP (b5.length + (([97, 103, 97, 105, 110, 32, 53, 10] : List Nat).map UInt8.ofNat).length ≤ 140737488355328) (mP (InR 0 (500 : Int)) (exB fun b6 : List UInt8 => mP ((b5 ++ (([97, 103, 97, 105, 110, 32, 53, 10] : List Nat).map UInt8.ofNat)).map encU = b6.map encU) (mP ((b5 ++ (([97, 103, 97, 105, 110, 32, 53, 10] : List Nat).map UInt8.ofNat)).length = b6.length) (mP (b6.length + (([98, 97, 103, 32, 53, 48, 48, 10] : List Nat).map UInt8.ofNat).length ≤ 140737488355328) (mP (InR 0 (1 : Int)) (exB fun b7 : List UInt8 => mP ((b6 ++ (([98, 97, 103, 32, 53, 48, 48, 10] : List Nat).map UInt8.ofNat)).map encU = b7.map encU) (mP ((b6 ++ (([98, 97, 103, 32, 53, 48, 48, 10] : List Nat).map UInt8.ofNat)).length = b7.length) (mP (b7.length + (([102, 105, 114, 115, 116, 32, 49, 10] : List Nat).map UInt8.ofNat).length ≤ 140737488355328) (exB fun b8 : List UInt8 => mP ((b7 ++ (([102, 105, 114, 115, 116, 32, 49, 10] : List Nat).map UInt8.ofNat)).map encU = b8.map encU) (mP ((b7 ++ (([102, 105, 114, 115, 116, 32, 49, 10] : List Nat).map UInt8.ofNat)).length = b8.length) (mP (b8 ≠ []) (mP (([] : List UInt8).length + b8.length ≤ 140737488355328) (mP (InR 0 (1 : Int)) (mP (InR 0 (2 : Int)) (mP (InR 0 (3 : Int)) (mP ((Lib.join [([115, 112, 111, 105, 108] : List Nat).map UInt8.ofNat, ([49] : List Nat).map UInt8.ofNat, ([50] : List Nat).map UInt8.ofNat, ([51] : List Nat).map UInt8.ofNat] (([32] : List Nat).map UInt8.ofNat)).length ≤ 140737488355328) (mP ([([115, 112, 111, 105, 108] : List Nat).map UInt8.ofNat, ([49] : List Nat).map UInt8.ofNat, ([50] : List Nat).map UInt8.ofNat, ([51] : List Nat).map UInt8.ofNat].length ≤ 140737488355328) (mP ((Lib.join [([115, 112, 111, 105, 108] : List Nat).map UInt8.ofNat, ([49] : List Nat).map UInt8.ofNat, ([50] : List Nat).map UInt8.ofNat, ([51] : List Nat).map UInt8.ofNat] (([32] : List Nat).map UInt8.ofNat)).length + (([10] : List Nat).map UInt8.ofNat).length ≤ 9223372036854775807) (exB fun b9 : List UInt8 => mP ((([] : List UInt8) ++ b8).map encU = b9.map encU) (mP ((([] : List UInt8) ++ b8).length = b9.length) (mP (b9.length + ((Lib.join [([115, 112, 111, 105, 108] : List Nat).map UInt8.ofNat, ([49] : List Nat).map UInt8.ofNat, ([50] : List Nat).map UInt8.ofNat, ([51] : List Nat).map UInt8.ofNat] (([32] : List Nat).map UInt8.ofNat)) ++ (([10] : List Nat).map UInt8.ofNat)).length ≤ 140737488355328) (iP ((65536 : Int) < ((b9 ++ ((Lib.join [([115, 112, 111, 105, 108] : List Nat).map UInt8.ofNat, ([49] : List Nat).map UInt8.ofNat, ([50] : List Nat).map UInt8.ofNat, ([51] : List Nat).map UInt8.ofNat] (([32] : List Nat).map UInt8.ofNat)) ++ (([10] : List Nat).map UInt8.ofNat))).length : Int)) (K (.bool false) .leaf 0) (exB fun b10 : List UInt8 => mP ((b9 ++ ((Lib.join [([115, 112, 111, 105, 108] : List Nat).map UInt8.ofNat, ([49] : List Nat).map UInt8.ofNat, ([50] : List Nat).map UInt8.ofNat, ([51] : List Nat).map UInt8.ofNat] (([32] : List Nat).map UInt8.ofNat)) ++ (([10] : List Nat).map UInt8.ofNat))).map encU = b10.map encU) (mP ((b9 ++ ((Lib.join [([115, 112, 111, 105, 108] : List Nat).map UInt8.ofNat, ([49] : List Nat).map UInt8.ofNat, ([50] : List Nat).map UInt8.ofNat, ([51] : List Nat).map UInt8.ofNat] (([32] : List Nat).map UInt8.ofNat)) ++ (([10] : List Nat).map UInt8.ofNat))).length = b10.length) (mP (b10 ≠ []) (iP (b10 = (([103, 114, 111, 117, 112, 32, 49, 32, 48, 32, 112, 108, 97, 105, 110, 10, 99, 108, 105, 101, 110, 116, 115, 32, 49, 10, 119, 105, 110, 100, 111, 119, 32, 52, 10, 100, 101, 97, 100, 108, 105, 110, 101, 32, 50, 48, 48, 10, 112, 97, 99, 101, 32, 49, 10, 97, 103, 97, 105, 110, 32, 53, 10, 98, 97, 103, 32, 53, 48, 48, 10, 102, 105, 114, 115, 116, 32, 49, 10, 115, 112, 111, 105, 108, 32, 49, 32, 50, 32, 51, 10] : List Nat).map UInt8.ofNat)) (K (.bool true) .leaf 0) (K (.bool false) .leaf 0))))))))))))))))))))))))))))))))))))))))))))))))))) (by kernel_rfl) ?_
  refine mI (by simp only [InR] ; omega) (mI (by simp only [InR] ; omega) (mI (by decide +kernel) (mI (by simp only [InR] ; omega) ?_)))
  refine exB_mk (([] : List UInt8) ++ (([103, 114, 111, 117, 112, 32, 49, 32, 48, 32, 112, 108, 97, 105, 110, 10] : List Nat).map UInt8.ofNat)) ?_
  refine mI (rfl) (mI (by decide +kernel) (mI (by decide +kernel) (mI (by simp only [InR] ; omega) ?_)))
  refine exB_mk ((([] : List UInt8) ++ (([103, 114, 111, 117, 112, 32, 49, 32, 48, 32, 112, 108, 97, 105, 110, 10] : List Nat).map UInt8.ofNat)) ++ (([99, 108, 105, 101, 110, 116, 115, 32, 49, 10] : List Nat).map UInt8.ofNat)) ?_
  refine mI (rfl) (mI (by decide +kernel) (mI (by decide +kernel) (mI (by simp only [InR] ; omega) ?_)))
  refine exB_mk (((([] : List UInt8) ++ (([103, 114, 111, 117, 112, 32, 49, 32, 48, 32, 112, 108, 97, 105, 110, 10] : List Nat).map UInt8.ofNat)) ++ (([99, 108, 105, 101, 110, 116, 115, 32, 49, 10] : List Nat).map UInt8.ofNat)) ++ (([119, 105, 110, 100, 111, 119, 32, 52, 10] : List Nat).map UInt8.ofNat)) ?_
  refine mI (rfl) (mI (by decide +kernel) (mI (by decide +kernel) (mI (by simp only [InR] ; omega) ?_)))
  refine exB_mk ((((([] : List UInt8) ++ (([103, 114, 111, 117, 112, 32, 49, 32, 48, 32, 112, 108, 97, 105, 110, 10] : List Nat).map UInt8.ofNat)) ++ (([99, 108, 105, 101, 110, 116, 115, 32, 49, 10] : List Nat).map UInt8.ofNat)) ++ (([119, 105, 110, 100, 111, 119, 32, 52, 10] : List Nat).map UInt8.ofNat)) ++ (([100, 101, 97, 100, 108, 105, 110, 101, 32, 50, 48, 48, 10] : List Nat).map UInt8.ofNat)) ?_
  refine mI (rfl) (mI (by decide +kernel) (mI (by decide +kernel) (mI (by simp only [InR] ; omega) ?_)))
  refine exB_mk (((((([] : List UInt8) ++ (([103, 114, 111, 117, 112, 32, 49, 32, 48, 32, 112, 108, 97, 105, 110, 10] : List Nat).map UInt8.ofNat)) ++ (([99, 108, 105, 101, 110, 116, 115, 32, 49, 10] : List Nat).map UInt8.ofNat)) ++ (([119, 105, 110, 100, 111, 119, 32, 52, 10] : List Nat).map UInt8.ofNat)) ++ (([100, 101, 97, 100, 108, 105, 110, 101, 32, 50, 48, 48, 10] : List Nat).map UInt8.ofNat)) ++ (([112, 97, 99, 101, 32, 49, 10] : List Nat).map UInt8.ofNat)) ?_
  refine mI (rfl) (mI (by decide +kernel) (mI (by decide +kernel) (mI (by simp only [InR] ; omega) ?_)))
  refine exB_mk ((((((([] : List UInt8) ++ (([103, 114, 111, 117, 112, 32, 49, 32, 48, 32, 112, 108, 97, 105, 110, 10] : List Nat).map UInt8.ofNat)) ++ (([99, 108, 105, 101, 110, 116, 115, 32, 49, 10] : List Nat).map UInt8.ofNat)) ++ (([119, 105, 110, 100, 111, 119, 32, 52, 10] : List Nat).map UInt8.ofNat)) ++ (([100, 101, 97, 100, 108, 105, 110, 101, 32, 50, 48, 48, 10] : List Nat).map UInt8.ofNat)) ++ (([112, 97, 99, 101, 32, 49, 10] : List Nat).map UInt8.ofNat)) ++ (([97, 103, 97, 105, 110, 32, 53, 10] : List Nat).map UInt8.ofNat)) ?_
  refine mI (rfl) (mI (by decide +kernel) (mI (by decide +kernel) (mI (by simp only [InR] ; omega) ?_)))
  refine exB_mk (((((((([] : List UInt8) ++ (([103, 114, 111, 117, 112, 32, 49, 32, 48, 32, 112, 108, 97, 105, 110, 10] : List Nat).map UInt8.ofNat)) ++ (([99, 108, 105, 101, 110, 116, 115, 32, 49, 10] : List Nat).map UInt8.ofNat)) ++ (([119, 105, 110, 100, 111, 119, 32, 52, 10] : List Nat).map UInt8.ofNat)) ++ (([100, 101, 97, 100, 108, 105, 110, 101, 32, 50, 48, 48, 10] : List Nat).map UInt8.ofNat)) ++ (([112, 97, 99, 101, 32, 49, 10] : List Nat).map UInt8.ofNat)) ++ (([97, 103, 97, 105, 110, 32, 53, 10] : List Nat).map UInt8.ofNat)) ++ (([98, 97, 103, 32, 53, 48, 48, 10] : List Nat).map UInt8.ofNat)) ?_
  refine mI (rfl) (mI (by decide +kernel) (mI (by decide +kernel) ?_))
  refine exB_mk ((((((((([] : List UInt8) ++ (([103, 114, 111, 117, 112, 32, 49, 32, 48, 32, 112, 108, 97, 105, 110, 10] : List Nat).map UInt8.ofNat)) ++ (([99, 108, 105, 101, 110, 116, 115, 32, 49, 10] : List Nat).map UInt8.ofNat)) ++ (([119, 105, 110, 100, 111, 119, 32, 52, 10] : List Nat).map UInt8.ofNat)) ++ (([100, 101, 97, 100, 108, 105, 110, 101, 32, 50, 48, 48, 10] : List Nat).map UInt8.ofNat)) ++ (([112, 97, 99, 101, 32, 49, 10] : List Nat).map UInt8.ofNat)) ++ (([97, 103, 97, 105, 110, 32, 53, 10] : List Nat).map UInt8.ofNat)) ++ (([98, 97, 103, 32, 53, 48, 48, 10] : List Nat).map UInt8.ofNat)) ++ (([102, 105, 114, 115, 116, 32, 49, 10] : List Nat).map UInt8.ofNat)) ?_
  refine mI (rfl) (mI (by decide +kernel) (mI (by decide +kernel) (mI (by decide +kernel) (mI (by simp only [InR] ; omega) (mI (by simp only [InR] ; omega) (mI (by simp only [InR] ; omega) (mI (by decide +kernel) (mI (by decide +kernel) (mI (by decide +kernel) ?_)))))))))
  refine exB_mk (([] : List UInt8) ++ ((((((((([] : List UInt8) ++ (([103, 114, 111, 117, 112, 32, 49, 32, 48, 32, 112, 108, 97, 105, 110, 10] : List Nat).map UInt8.ofNat)) ++ (([99, 108, 105, 101, 110, 116, 115, 32, 49, 10] : List Nat).map UInt8.ofNat)) ++ (([119, 105, 110, 100, 111, 119, 32, 52, 10] : List Nat).map UInt8.ofNat)) ++ (([100, 101, 97, 100, 108, 105, 110, 101, 32, 50, 48, 48, 10] : List Nat).map UInt8.ofNat)) ++ (([112, 97, 99, 101, 32, 49, 10] : List Nat).map UInt8.ofNat)) ++ (([97, 103, 97, 105, 110, 32, 53, 10] : List Nat).map UInt8.ofNat)) ++ (([98, 97, 103, 32, 53, 48, 48, 10] : List Nat).map UInt8.ofNat)) ++ (([102, 105, 114, 115, 116, 32, 49, 10] : List Nat).map UInt8.ofNat))) ?_
  refine mI (rfl) (mI (by decide +kernel) (mI (by decide +kernel) ?_))
  refine iI (p := (65536 : Int) < (((([] : List UInt8) ++ ((((((((([] : List UInt8) ++ (([103, 114, 111, 117, 112, 32, 49, 32, 48, 32, 112, 108, 97, 105, 110, 10] : List Nat).map UInt8.ofNat)) ++ (([99, 108, 105, 101, 110, 116, 115, 32, 49, 10] : List Nat).map UInt8.ofNat)) ++ (([119, 105, 110, 100, 111, 119, 32, 52, 10] : List Nat).map UInt8.ofNat)) ++ (([100, 101, 97, 100, 108, 105, 110, 101, 32, 50, 48, 48, 10] : List Nat).map UInt8.ofNat)) ++ (([112, 97, 99, 101, 32, 49, 10] : List Nat).map UInt8.ofNat)) ++ (([97, 103, 97, 105, 110, 32, 53, 10] : List Nat).map UInt8.ofNat)) ++ (([98, 97, 103, 32, 53, 48, 48, 10] : List Nat).map UInt8.ofNat)) ++ (([102, 105, 114, 115, 116, 32, 49, 10] : List Nat).map UInt8.ofNat))) ++ ((Lib.join [([115, 112, 111, 105, 108] : List Nat).map UInt8.ofNat, ([49] : List Nat).map UInt8.ofNat, ([50] : List Nat).map UInt8.ofNat, ([51] : List Nat).map UInt8.ofNat] (([32] : List Nat).map UInt8.ofNat)) ++ (([10] : List Nat).map UInt8.ofNat))).length : Int)) (fun hc1 => ?_) (fun hc1 => ?_)
  exfalso ; first | (revert hc1 ; decide +kernel) | (revert hc2 ; decide +kernel) | (revert hc3 ; decide +kernel) | (revert hc4 ; decide +kernel) | (revert hc5 ; decide +kernel) | (revert hc6 ; decide +kernel) | (revert hc7 ; decide +kernel) | (revert hc8 ; decide +kernel) | (revert hc9 ; decide +kernel) | (revert hc10 ; decide +kernel) | (revert hc11 ; decide +kernel) | (revert hc12 ; decide +kernel) | (revert hc13 ; decide +kernel) | (revert hc14 ; decide +kernel) | (revert hc15 ; decide +kernel) | (revert hc16 ; decide +kernel) | (revert hc17 ; decide +kernel) | (revert hc18 ; decide +kernel) | (revert hc19 ; decide +kernel)
  refine exB_mk ((([] : List UInt8) ++ ((((((((([] : List UInt8) ++ (([103, 114, 111, 117, 112, 32, 49, 32, 48, 32, 112, 108, 97, 105, 110, 10] : List Nat).map UInt8.ofNat)) ++ (([99, 108, 105, 101, 110, 116, 115, 32, 49, 10] : List Nat).map UInt8.ofNat)) ++ (([119, 105, 110, 100, 111, 119, 32, 52, 10] : List Nat).map UInt8.ofNat)) ++ (([100, 101, 97, 100, 108, 105, 110, 101, 32, 50, 48, 48, 10] : List Nat).map UInt8.ofNat)) ++ (([112, 97, 99, 101, 32, 49, 10] : List Nat).map UInt8.ofNat)) ++ (([97, 103, 97, 105, 110, 32, 53, 10] : List Nat).map UInt8.ofNat)) ++ (([98, 97, 103, 32, 53, 48, 48, 10] : List Nat).map UInt8.ofNat)) ++ (([102, 105, 114, 115, 116, 32, 49, 10] : List Nat).map UInt8.ofNat))) ++ ((Lib.join [([115, 112, 111, 105, 108] : List Nat).map UInt8.ofNat, ([49] : List Nat).map UInt8.ofNat, ([50] : List Nat).map UInt8.ofNat, ([51] : List Nat).map UInt8.ofNat] (([32] : List Nat).map UInt8.ofNat)) ++ (([10] : List Nat).map UInt8.ofNat))) ?_
  refine mI (rfl) (mI (by decide +kernel) (mI (by decide +kernel) ?_))
  refine iI (p := ((([] : List UInt8) ++ ((((((((([] : List UInt8) ++ (([103, 114, 111, 117, 112, 32, 49, 32, 48, 32, 112, 108, 97, 105, 110, 10] : List Nat).map UInt8.ofNat)) ++ (([99, 108, 105, 101, 110, 116, 115, 32, 49, 10] : List Nat).map UInt8.ofNat)) ++ (([119, 105, 110, 100, 111, 119, 32, 52, 10] : List Nat).map UInt8.ofNat)) ++ (([100, 101, 97, 100, 108, 105, 110, 101, 32, 50, 48, 48, 10] : List Nat).map UInt8.ofNat)) ++ (([112, 97, 99, 101, 32, 49, 10] : List Nat).map UInt8.ofNat)) ++ (([97, 103, 97, 105, 110, 32, 53, 10] : List Nat).map UInt8.ofNat)) ++ (([98, 97, 103, 32, 53, 48, 48, 10] : List Nat).map UInt8.ofNat)) ++ (([102, 105, 114, 115, 116, 32, 49, 10] : List Nat).map UInt8.ofNat))) ++ ((Lib.join [([115, 112, 111, 105, 108] : List Nat).map UInt8.ofNat, ([49] : List Nat).map UInt8.ofNat, ([50] : List Nat).map UInt8.ofNat, ([51] : List Nat).map UInt8.ofNat] (([32] : List Nat).map UInt8.ofNat)) ++ (([10] : List Nat).map UInt8.ofNat))) = (([103, 114, 111, 117, 112, 32, 49, 32, 48, 32, 112, 108, 97, 105, 110, 10, 99, 108, 105, 101, 110, 116, 115, 32, 49, 10, 119, 105, 110, 100, 111, 119, 32, 52, 10, 100, 101, 97, 100, 108, 105, 110, 101, 32, 50, 48, 48, 10, 112, 97, 99, 101, 32, 49, 10, 97, 103, 97, 105, 110, 32, 53, 10, 98, 97, 103, 32, 53, 48, 48, 10, 102, 105, 114, 115, 116, 32, 49, 10, 115, 112, 111, 105, 108, 32, 49, 32, 50, 32, 51, 10] : List Nat).map UInt8.ofNat)) (fun hc2 => ?_) (fun hc2 => ?_)
  exact hK
  exfalso ; first | (revert hc1 ; decide +kernel) | (revert hc2 ; decide +kernel) | (revert hc3 ; decide +kernel) | (revert hc4 ; decide +kernel) | (revert hc5 ; decide +kernel) | (revert hc6 ; decide +kernel) | (revert hc7 ; decide +kernel) | (revert hc8 ; decide +kernel) | (revert hc9 ; decide +kernel) | (revert hc10 ; decide +kernel) | (revert hc11 ; decide +kernel) | (revert hc12 ; decide +kernel) | (revert hc13 ; decide +kernel) | (revert hc14 ; decide +kernel) | (revert hc15 ; decide +kernel) | (revert hc16 ; decide +kernel) | (revert hc17 ; decide +kernel) | (revert hc18 ; decide +kernel) | (revert hc19 ; decide +kernel)
noncomputable def nat_knows := natC nat_n_get 0 (esOf I_knows out_knows) 6 []
theorem nat_knows_ok : NatsOk Tryd.prog nat_knows := natC_ok (natE_pn (f := 6) (k := 0) (cfT_ok nat_n_get_ok) ft_knows_ok (by rfl) (by rfl) vf_knows) nat_n_get_ok
end Go.Proofs.Tryd