/- Reading what came in: leaves of structs and arrays, slices of them. No condition: plain lemmas. -/
import Derived.Test.YtkahniffcehicaaDat
import Derived.Deep.Slices
import Derived.Lib.LaidTab
import Derived.OpenShut
namespace Go.Eng
open Go Go.RowKit

theorem add_add (a : Addr) (i j : Nat) : (a.add i).add j = a.add (i + j) := by
  unfold Addr.add
  by_cases hi : i = 0 <;> by_cases hj : j = 0 <;> simp [hi, hj, Nat.add_assoc]
theorem list_of {α : Type} {p : Nat → α → Prop} : ∀ n, (∀ i, i < n → ∃ x, p i x) → ∃ l : List α, l.length = n ∧ ∀ i x, l[i]? = some x → p i x
  | 0, _ => ⟨[], rfl, fun i x h => by simp at h⟩
  | n + 1, h => by
    obtain ⟨l, h1, h2⟩ := list_of n fun i hi => h i (by omega)
    obtain ⟨x, hx⟩ := h n (by omega)
    refine ⟨l ++ [x], by simp [h1], fun i y hy => ?_⟩
    rcases Nat.lt_or_ge i n with hi | hi
    · rw [List.getElem?_append_left (by omega)] at hy
      exact h2 i y hy
    · rw [List.getElem?_append_right (by omega)] at hy
      have : i - l.length = 0 := by
        rcases Nat.eq_zero_or_pos (i - l.length) with h0 | h0
        · exact h0
        · rw [List.getElem?_eq_none (by simp; omega)] at hy; cases hy
      rw [this] at hy
      simp only [List.getElem?_cons_zero, Option.some.injEq] at hy
      subst hy
      have : i = n := by omega
      subst this
      exact hx

/-- The leaves of a run of parts, each at its place. -/
def partsW (P : Program) (L : TypeId → Option (List TypeId)) : List (TypeId × Nat) → Nat → Option (List TypeId)
  | [], _ => some []
  | (t, o) :: r, off => bif Nat.beq o off then (L t).bind fun a => bif Nat.beq a.length (P.cellsOf t) then (partsW P L r (off + a.length)).map (a ++ ·) else none else none
def Leafs (P : Program) : Nat → TypeId → Option (List TypeId)
  | 0, _ => none
  | n + 1, t => match P.underlying t with
    | some (.struct fs) => (partsW P (Leafs P n) (fs.toList.map fun f => (f.type, f.offset)) 0).bind fun ts => bif Nat.beq ts.length (P.cellsOf t) then some ts else none
    | some (.array m e) => (partsW P (Leafs P n) ((List.range m).map fun i => (e, i * P.cellsOf e)) 0).bind fun ts => bif Nat.beq ts.length (P.cellsOf t) then some ts else none
    | some _ => some [t]
    | none => none

section
variable {H : Type} {enc : TypeId × Value → H} {P : Program} {w : World} {base : Nat} {spare : Nat → Bool} {held : Bool}

theorem parts_trod {n m : Nat} {cs : List Value} (ih : ∀ t ts, Leafs P n t = some ts → ∀ cs x, DataW.trod enc P w base spare held m t cs = some x → cs.length = ts.length ∧ ∀ (j : Nat) (u : TypeId) (c : Value), ts[j]? = some u → cs[j]? = some c → ∃ k y, DataW.trod enc P w base spare held k u [c] = some y) :
    ∀ (l : List (TypeId × Nat)) (off : Nat) (ts : List TypeId), partsW P (Leafs P n) l off = some ts → (∀ p ∈ l, ∃ x, DataW.trod enc P w base spare held m p.1 ((cs.drop p.2).take (P.cellsOf p.1)) = some x) →
      ∀ (j : Nat) (u : TypeId) (c : Value), ts[j]? = some u → cs[off + j]? = some c → ∃ k y, DataW.trod enc P w base spare held k u [c] = some y
  | [], off, ts, h, _, j, u, c, hu, _ => by
    simp only [partsW, Option.some.injEq] at h
    subst h; simp at hu
  | (t, o) :: r, off, ts, h, hall, j, u, c, hu, hc => by
    simp only [partsW] at h
    cases ho : Nat.beq o off with
    | false => simp [ho] at h
    | true =>
      have ho := Nat.eq_of_beq_eq_true ho
      subst ho
      rcases hL : Leafs P n t with _ | a
      · simp [hL] at h
      · cases hl : Nat.beq a.length (P.cellsOf t) with
        | false => simp [hL, hl] at h
        | true =>
          rcases hr : partsW P (Leafs P n) r (o + a.length) with _ | b
          · simp [hL, hl, hr] at h
          · simp only [Nat.beq_refl, cond_true, hL, Option.bind_some, hl, hr, Option.map_some, Option.some.injEq] at h
            have hl := Nat.eq_of_beq_eq_true hl
            subst h
            rcases Nat.lt_or_ge j a.length with hj | hj
            · rw [List.getElem?_append_left hj] at hu
              obtain ⟨x, hx⟩ := hall (t, o) (by simp)
              refine (ih t a hL _ x hx).2 j u c hu ?_
              rw [List.getElem?_take_of_lt (by rw [← hl]; exact hj), List.getElem?_drop]
              exact hc
            · rw [List.getElem?_append_right hj] at hu
              refine parts_trod ih r (o + a.length) b hr (fun p hp => hall p (by simp [hp])) (j - a.length) u c hu ?_
              rw [show o + a.length + (j - a.length) = o + j by omega]
              exact hc

theorem leafs_trod : ∀ (n : Nat) (t : TypeId) (ts : List TypeId), Leafs P n t = some ts → ∀ (m : Nat) (cs : List Value) x, DataW.trod enc P w base spare held m t cs = some x →
    cs.length = ts.length ∧ ∀ (j : Nat) (u : TypeId) (c : Value), ts[j]? = some u → cs[j]? = some c → ∃ k y, DataW.trod enc P w base spare held k u [c] = some y := by
  intro n
  induction n with
  | zero => intro t ts h; simp [Leafs] at h
  | succ n ih =>
    intro t ts h m cs x hx
    unfold Leafs at h
    split at h
    · rename_i fs hu
      obtain ⟨ts', hp, hb⟩ := Option.bind_eq_some_iff.1 h
      cases hl : Nat.beq ts'.length (P.cellsOf t) with
      | false => simp [hl] at hb
      | true =>
        simp only [hl, cond_true, Option.some.injEq] at hb
        subst hb
        have hl := Nat.eq_of_beq_eq_true hl
        cases m with
        | zero => simp [DataW.trod] at hx
        | succ m =>
          simp only [DataW.trod, hu] at hx
          split at hx
          · rename_i hlen
            obtain ⟨xs, hm, _⟩ := Option.map_eq_some_iff.1 hx
            refine ⟨by omega, fun j u c hju hc => parts_trod (cs := cs) (n := n) (m := m) (fun t ts h cs x hx => ih t ts h m cs x hx) _ 0 _ hp (fun p hp => ?_) j u c hju (by simpa using hc)⟩
            obtain ⟨f, hf, rfl⟩ := List.mem_map.1 hp
            obtain ⟨i, hi⟩ := List.mem_iff_getElem?.1 hf
            obtain ⟨b, _, hb⟩ := Lib.mapM_at hm i f hi
            exact ⟨b, hb⟩
          · cases hx
    · rename_i k e hu
      obtain ⟨ts', hp, hb⟩ := Option.bind_eq_some_iff.1 h
      cases hl : Nat.beq ts'.length (P.cellsOf t) with
      | false => simp [hl] at hb
      | true =>
        simp only [hl, cond_true, Option.some.injEq] at hb
        subst hb
        have hl := Nat.eq_of_beq_eq_true hl
        cases m with
        | zero => simp [DataW.trod] at hx
        | succ m =>
          simp only [DataW.trod, hu] at hx
          split at hx
          · rename_i hlen
            obtain ⟨xs, hm, _⟩ := Option.map_eq_some_iff.1 hx
            refine ⟨by omega, fun j u c hju hc => parts_trod (cs := cs) (n := n) (m := m) (fun t ts h cs x hx => ih t ts h m cs x hx) _ 0 _ hp (fun p hp => ?_) j u c hju (by simpa using hc)⟩
            obtain ⟨i, hi, rfl⟩ := List.mem_map.1 hp
            obtain ⟨q, hq⟩ := List.mem_iff_getElem?.1 hi
            have : i = q := by
              have := (List.getElem?_eq_some_iff.1 hq)
              obtain ⟨h1, h2⟩ := this
              simpa using h2.symm
            subst this
            obtain ⟨b, _, hb⟩ := Lib.mapM_at hm i i hq
            exact ⟨b, hb⟩
          · cases hx
    · rename_i d hns hna hu
      simp only [Option.some.injEq] at h
      subst h
      have h1 : cs.length = 1 := by
        cases m with
        | zero => simp [DataW.trod] at hx
        | succ m =>
          unfold DataW.trod at hx
          rw [hu] at hx
          split at hx <;> simp_all
      refine ⟨by simpa using h1, fun j u c hju hc => ?_⟩
      obtain ⟨c0, rfl⟩ := List.length_eq_one_iff.1 h1
      have hj : j = 0 := by
        rcases j with _ | j
        · rfl
        · simp at hju
      subst hj
      simp only [List.getElem?_cons_zero, Option.some.injEq] at hju hc
      subst hju; subst hc
      exact ⟨m, x, hx⟩
    · cases h
theorem leaf_int {u : TypeId} {k : IntKind} {c : Value} (hu : P.underlying u = some (.int k)) (h : ∃ n y, DataW.trod enc P w base spare held n u [c] = some y) : ∃ z, c = .int k z ∧ (Lit.int k z).wf = true := by
  obtain ⟨n, y, h⟩ := h
  obtain ⟨z, hc, _, hw⟩ := DataW.trod_int hu h
  simp only [List.cons.injEq, and_true] at hc
  exact ⟨z, hc, hw⟩
theorem leaf_str {u : TypeId} {c : Value} (hu : P.underlying u = some .string) (h : ∃ n y, DataW.trod enc P w base spare held n u [c] = some y) : ∃ l : List UInt8, c = S l ∧ l.length ≤ maxLen := by
  obtain ⟨n, y, h⟩ := h
  cases n with
  | zero => simp [DataW.trod] at h
  | succ n =>
    unfold DataW.trod at h
    rw [hu] at h
    split at h <;> simp_all
    rename_i s hq
    exact ⟨s.data.toList, by simp, by rw [Array.length_toList]; exact h.1⟩
theorem leaf_bool {u : TypeId} {c : Value} (hu : P.underlying u = some .bool) (h : ∃ n y, DataW.trod enc P w base spare held n u [c] = some y) : ∃ b, c = .bool b := by
  obtain ⟨n, y, h⟩ := h
  cases n with
  | zero => simp [DataW.trod] at h
  | succ n =>
    unfold DataW.trod at h
    rw [hu] at h
    split at h <;> simp_all

theorem rdf_of {α : Type} {en : α → List Value} {size cap : Nat} {a : Addr} {t : List α} (hl : t.length ≤ cap) (hm : cap ≤ maxLen) (hs : 0 < size) (hlen : ∀ x, (en x).length = size)
    (hp : ∀ (i : Nat) (x : α), t[i]? = some x → w.cells? base (a.add (i * size)) size = some (en x)) : RdF en size (GS.of w).M (some a) cap t := by
  have hcell : ∀ (i : Nat) (x : α), t[i]? = some x → ∀ j v, (en x)[j]? = some v → w.cell? (a.add (i * size + j)) = some v := by
    intro i x hx j v hv
    obtain ⟨_, _, h⟩ := World.cells?_some (hp i x hx)
    have hj : j < size := by rw [← hlen x]; exact (List.getElem?_eq_some_iff.1 hv).1
    have h2 := h j hj
    rw [hv, add_add] at h2
    exact h2
  have hspot : 0 < t.length → a = ⟨a.block, a.off, none⟩ := by
    intro h0
    have h1 : (en t[0])[0]? = some ((en t[0])[0]'(by rw [hlen]; exact hs)) := by simp
    have h2 := hcell 0 t[0] (by simp [h0]) 0 _ h1
    have h3 := World.cell?_spot h2
    obtain ⟨b, o, sp⟩ := a
    simp only [Nat.zero_mul, Nat.add_zero, Addr.add, if_true] at h3
    subst h3
    rfl
  refine ⟨hl, hm, fun h => congrArg some (hspot h), fun i x hx j v hv => ?_⟩
  have h0 : 0 < t.length := by
    have := (List.getElem?_eq_some_iff.1 hx).1
    omega
  have h := hcell i x hx j v hv
  rw [hspot h0, add_mk] at h
  simp only [mcell, GS.of, blk, ofs]
  rw [Nat.add_assoc]
  rcases hh : w.heap[a.block]? with _ | o
  · simp [World.cell?, hh] at h
  · cases o <;> simp [World.cell?, hh] at h ⊢
    exact h
end
end Go.Eng
