/- The executor for symbolic runs: loads, stores, slicing. No condition: definitions and plain lemmas. -/
import Derived.Test.YtkahniffcehicaaZE
namespace Go.Sy
open Go Go.RowKit Go.Eng

section
variable {P : Program} {E : Env} {ρ : Ren} {G : GS} {F : List Chunk} {M : T} {nx : Nat} {w : World}

/-! ### What lies there -/
noncomputable def pickP (agg : Bool) (n : Nat) (cs : List PL) (o : Nat) (K : AV → Bool) : Bool := ifB agg (tak (drp cs o) n fun l => K (.agg (mapA l))) (atO (nth cs o) fun p => K (toA p))
theorem pickP_ok {agg : Bool} {n : Nat} {cs : List PL} {o b base : Nat} {K : AV → Bool} {t : TypeId} (hk : pickP agg n cs o K = true) (hp : ∀ p ∈ cs, OkP E.M p) (hc : ∀ j v, (cs.map valP)[j]? = some v → w.cell? ⟨b, base + j, none⟩ = some v)
    (hag : isAg P t = some agg) (hs : szOf P t = some n) : ∃ u z, den E ρ u = some z ∧ K u = true ∧ (Instr.loadAt t (.pointer (some ⟨b, base + o, none⟩))).run P w = .ok z w := by
  rcases ifB_ok hk with ⟨rfl, g⟩ | ⟨rfl, g⟩
  · obtain ⟨g1, hle⟩ := tak_ok g
    rw [drp_eq] at g1 hle
    have hl : ∀ p ∈ (cs.drop o).take n, OkP E.M p := fun p q => hp p (List.mem_of_mem_drop (List.mem_of_mem_take q))
    refine ⟨.agg (mapA ((cs.drop o).take n)), .agg (((cs.drop o).take n).map valP).toArray, by simp only [den, mapA_den hl], g1, ?_⟩
    have hlen : (((cs.drop o).take n).map valP).length = n := by simp only [List.length_map, List.length_take]; omega
    have := Go.Eng.run_loadCells (P := P) (w := w) b (base + o) (((cs.drop o).take n).map valP) 0 #[] (fun j v hv => by
      rw [Nat.zero_add, Nat.add_assoc]
      refine hc (o + j) v ?_
      rw [List.map_take, List.map_drop] at hv
      have hj : j < n := by
        have := (List.getElem?_eq_some_iff.1 hv).1
        rw [List.length_take] at this; omega
      rw [List.getElem?_take_of_lt hj, List.getElem?_drop] at hv
      exact hv)
    rw [hlen] at this
    simp [Instr.loadAt, Instr.sureAddr, loadVar, Go.Eng.run_isAgg hag, Go.Eng.run_sizeOf hs, loadCells, this]
  · obtain ⟨p, h1, g1⟩ := atO_ok g
    rw [nth_eq] at h1
    have hm := List.mem_of_getElem? h1
    have := hc o (valP p) (by rw [List.getElem?_map, h1]; rfl)
    exact ⟨toA p, valP p, toA_den (hp p hm), g1, by simp [Instr.loadAt, Instr.sureAddr, loadVar, run_isAgg hag, load, Sem.run, this]⟩
noncomputable def prowOf (M : T) (i : Nat) (K : Nat → Nat → (α : Type) → List α → (α → List PL) → Bool) : Bool := atO (M.get i) fun ob => AObj.casesOn ob (fun _ _ _ _ => false) (fun _ _ => false) (fun _ _ _ _ => false) false K
theorem prowOf_ok {M : T} {i : Nat} {K : Nat → Nat → (α : Type) → List α → (α → List PL) → Bool} (h : prowOf M i K = true) : ∃ Ty sz α l enc, M.get i = some (.prow Ty sz α l enc) ∧ K Ty sz α l enc = true := by
  obtain ⟨ob, h1, h2⟩ := atO_ok h
  cases ob <;> first | exact ⟨_, _, _, _, _, h1, h2⟩ | cases h2
theorem hasB_prow {e : REnt} {c Ty sz : Nat} {α : Type} {l : List α} {enc : α → List PL} (h : e.cap = c + 1) : hasB e (.prow Ty sz α l enc) = true := by
  unfold hasB; rw [h]; rfl
/-- What a row of terms is in memory. -/
structure RowAt (E : Env) (w : World) (e : REnt) (Ty sz : Nat) (ps : List PL) (n c : Nat) (arr : Array Value) : Prop where
  heap : w.heap[e.b]? = some (.cells arr Ty (0, 0))
  ok : ∀ p ∈ ps, OkP E.M p
  len : ps.length = n * sz
  size : arr.size = c * sz
  take : arr.toList.take (n * sz) = ps.map valP
  le : n ≤ c
  max : c ≤ maxLen
theorem flatMap_len {α : Type} {enc : α → List PL} {sz : Nat} : ∀ {l : List α}, (∀ x ∈ l, (enc x).length = sz) → (l.flatMap enc).length = l.length * sz
  | [], _ => by simp
  | x :: l, h => by
    rw [List.flatMap_cons, List.length_append, h x (by simp), flatMap_len fun y hy => h y (by simp [hy]), List.length_cons, Nat.add_mul]
    omega
theorem Sim.prow (h : Sim E ρ G F M nx w) {i Ty sz : Nat} {α : Type} {l : List α} {enc : α → List PL} (hi : M.get i = some (.prow Ty sz α l enc)) :
    ∃ e, ρ i = some e ∧ 0 < sz ∧ ((e.cap = 0 ∧ l = []) ∨ ∃ c arr, e.cap = c + 1 ∧ (∀ x ∈ l, (enc x).length = sz) ∧ RowAt E w e Ty sz (l.flatMap enc) l.length c arr) := by
  obtain ⟨e, h1, ⟨q, ob, h2, arr, xs, rfl, h4, h5, h6, h7, h8, h9, h10⟩ | ⟨q, h3, h4⟩⟩ := h.objP hi
  · have hc : e.cap ≠ 0 := by
      intro hc
      simp [hasB, hc] at q
    obtain ⟨c, hc⟩ := Nat.exists_eq_succ_of_ne_zero hc
    obtain ⟨p1, rfl⟩ := denPs_some h6
    rw [hc] at h7 h9 h10
    exact ⟨e, h1, h4, .inr ⟨c, arr, hc, h5, h2, p1, flatMap_len h5, by simpa using h7, h8, by simpa using h9, by simpa using h10⟩⟩
  · refine ⟨e, h1, h4, .inl ⟨?_, h3⟩⟩
    simp [hasB] at q
    exact q
theorem RowAt.cell {e : REnt} {Ty sz n c : Nat} {ps : List PL} {arr : Array Value} (r : RowAt E w e Ty sz ps n c arr) {j : Nat} {v : Value} (hv : (ps.map valP)[j]? = some v) : w.cell? ⟨e.b, j, none⟩ = some v := by
  rw [← r.take] at hv
  have hlt : j < n * sz := by
    have := (List.getElem?_eq_some_iff.1 hv).1
    rw [List.length_take] at this; omega
  rw [List.getElem?_take_of_lt hlt] at hv
  simp only [World.cell?, r.heap]
  simpa using hv
theorem flatMap_at {α : Type} {enc : α → List PL} {sz : Nat} {l : List α} {q : Nat} {x : α} (hl : ∀ x ∈ l, (enc x).length = sz) (hx : l[q]? = some x) {j : Nat} {p : PL} (hp : (enc x)[j]? = some p) : (l.flatMap enc)[q * sz + j]? = some p := by
  have := flat_cell (els := l.map enc) (sz := sz) (q := q) (r := j) (el := enc x) (v := p) (fun e he => by
    obtain ⟨y, hy, rfl⟩ := List.mem_map.1 he
    exact hl y hy) (by rw [List.getElem?_map, hx]; rfl) hp
  rwa [← List.flatMap_def] at this
noncomputable def ldS (agg : Bool) (n : Nat) (v : AV) (M : T) (K : AV → Bool) : Bool := asSy v fun s => SY.casesOn s (fun _ _ => false) (fun _ => false) (fun _ => false) (fun _ _ _ _ _ => false) (fun _ _ cs => pickP agg n cs 0 K) (fun _ _ => false) (fun _ _ _ _ => false)
  (fun i sz q o => prowOf M i fun _ sz' _ l enc => must (Nat.beq sz sz') (must (prB (q < l.length)) (allB fun x => ifB (prB (l[q]? = some x)) (pickP agg n (enc x) o K) true))) (fun _ _ _ => false)
theorem ldS_ok (h : Sim E ρ G F M nx w) {agg : Bool} {n : Nat} {v : AV} {K : AV → Bool} {x : Value} (hv : den E ρ v = some x) (hk : ldS agg n v M K = true) {t : TypeId} (hag : isAg P t = some agg) (hs : szOf P t = some n) : ∃ u z, den E ρ u = some z ∧ K u = true ∧ (Instr.loadAt t x).run P w = .ok z w := by
  replace hk := asSy_ok hk
  obtain ⟨s, rfl, g⟩ := hk
  cases s <;> first | (cases g; done) | skip
  case pim b o cs =>
    obtain ⟨⟨h1, h2⟩, rfl⟩ := denS_pim (show denS E ρ (.pim b o cs) = some x from hv)
    exact pickP_ok (b := b) (base := o) (o := 0) g h1 (fun j v hv => h.cellM (h2 j v hv)) hag hs
  case rptr i sz q o =>
    obtain ⟨e, he, rfl⟩ := denS_rptr (show denS E ρ (.rptr i sz q o) = some x from hv)
    obtain ⟨Ty, sz', α, l, enc, hi, g1⟩ := prowOf_ok g
    obtain ⟨g2, g3⟩ := must_ok g1
    have g2 := Nat.eq_of_beq_eq_true g2
    subst g2
    obtain ⟨hlt, g4⟩ := mustP_ok g3
    have hx : l[q]? = some l[q] := List.getElem?_eq_getElem hlt
    obtain ⟨e', q1, hsz, ⟨_, q2⟩ | ⟨c, arr, q2, q3, r⟩⟩ := h.prow hi
    · subst q2; simp at hlt
    rw [he] at q1; cases q1
    rcases ifP_ok (allB_ok g4 l[q]) with ⟨_, g5⟩ | ⟨q, _⟩
    · exact pickP_ok (b := e.b) (base := q * sz) (o := o) g5 (fun p hp => r.ok p (List.mem_flatMap.2 ⟨_, List.getElem_mem hlt, hp⟩)) (fun j v hv => by
        rw [List.getElem?_map] at hv
        rcases hp : (enc l[q])[j]? with _ | p
        · rw [hp] at hv; cases hv
        · rw [hp] at hv
          have := r.cell (j := q * sz + j) (v := v) (by rw [List.getElem?_map, flatMap_at q3 hx hp]; exact hv)
          exact this) hag hs
    · exact absurd hx q
noncomputable def ldY (agg : Bool) (n : Nat) (v : AV) (M : T) (K : AV → Bool) : Bool := ifB (isSy v) (ldS agg n v M K) (ifB agg (ldaX n v M K) (ld1X v M K))
theorem ldY_ok (h : Sim E ρ G F M nx w) {agg : Bool} {n : Nat} {v : AV} {K : AV → Bool} {x : Value} (hv : den E ρ v = some x) (hk : ldY agg n v M K = true) {t : TypeId} (hag : isAg P t = some agg) (hs : szOf P t = some n) : ∃ u z, den E ρ u = some z ∧ K u = true ∧ (Instr.loadAt t x).run P w = .ok z w := by
  rcases ifB_ok hk with ⟨-, g⟩ | ⟨-, g⟩
  · exact ldS_ok h hv g hag hs
  · rcases ifB_ok g with ⟨rfl, g⟩ | ⟨rfl, g⟩
    · exact ldaX_ok h hv g hag hs
    · exact ld1X_ok h hv g hag

/-! ### Stores into rows of terms -/
noncomputable def stS (n : Nat) (v x : AV) (M : T) (K : T → Bool) : Bool := asSy v fun s => SY.casesOn s (fun _ _ => false) (fun _ => false) (fun _ => false) (fun _ _ _ _ _ => false) (fun _ _ _ => false) (fun _ _ => false) (fun _ _ _ _ => false)
  (fun i sz q o => prowOf M i fun Ty sz' α l enc => must (Nat.beq sz sz') (must (Nat.beq (lenL (cellsA x)) n) (must (prB (q < l.length)) (toPs (cellsA x) fun ps => allB fun y => ifB (prB (l[q]? = some y)) (exB fun y' => must (prB (o + ps.length ≤ sz ∧ enc y' = (enc y).take o ++ ps ++ (enc y).drop (o + ps.length)))
    (T.set fuelT M i (some (.prow Ty sz α (l.set q y') enc)) K)) true)))) (fun _ _ _ => false)
noncomputable def stY (n : Nat) (v x : AV) (M : T) (K : T → Bool) : Bool := ifB (isSy v) (stS n v x M K) (stX n v x M K)
theorem flatMap_set {α : Type} {enc : α → List PL} {sz : Nat} {l : List α} {q o : Nat} {y y' : α} {ps : List PL} (hl : ∀ x ∈ l, (enc x).length = sz) (hx : l[q]? = some y) (ho : o + ps.length ≤ sz) (he : enc y' = (enc y).take o ++ ps ++ (enc y).drop (o + ps.length)) :
    (l.set q y').flatMap enc = (l.flatMap enc).take (q * sz + o) ++ ps ++ (l.flatMap enc).drop (q * sz + o + ps.length) := by
  have hmem : ∀ e ∈ l.map enc, e.length = sz := fun e he => by
    obtain ⟨y, hy, rfl⟩ := List.mem_map.1 he
    exact hl y hy
  have hy := hl y (List.mem_of_getElem? hx)
  have := flat_upd (els := l.map enc) (sz := sz) (q := q) (r := o) (el := enc y) (vs := ps) hmem (by rw [List.getElem?_map, hx]; rfl) (by omega)
  rw [List.flatMap_def, List.flatMap_def, ← this, List.map_set]
  congr 1
  have hq := (List.getElem?_eq_some_iff.1 hx).1
  rw [List.set_eq_take_append_cons_drop, if_pos (by simpa using hq), he]
  simp
theorem stY_ok (hE : EOk E) (h : Sim E ρ G F M nx w) {n : Nat} {v x : AV} {K : T → Bool} {p y : Value} (hv : den E ρ v = some p) (hx : den E ρ x = some y) (hk : stY n v x M K = true) {t : TypeId} (hs : szOf P t = some n) :
    ∃ M' w', Sim E ρ G F M' nx w' ∧ K M' = true ∧ (Instr.storeAt t p y).run P w = .ok () w' := by
  rcases ifB_ok hk with ⟨-, g⟩ | ⟨-, g⟩
  · replace g := asSy_ok g
    obtain ⟨s, rfl, g⟩ := g
    cases s <;> first | (cases g; done) | skip
    case rptr i sz q o =>
      obtain ⟨e, he, rfl⟩ := denS_rptr (show denS E ρ (.rptr i sz q o) = some p from hv)
      obtain ⟨Ty, sz', α, l, enc, hi, g1⟩ := prowOf_ok g
      obtain ⟨g2, g3⟩ := must_ok g1
      have g2 := Nat.eq_of_beq_eq_true g2
      subst g2
      obtain ⟨g4, g5⟩ := must_ok g3
      obtain ⟨hlt, g6⟩ := mustP_ok g5
      have hcx := cellsA_den hE hx
      have hcl := denL_len hcx
      have hn' : (cellsA x).length = n := by rw [← lenL_eq]; exact Nat.eq_of_beq_eq_true g4
      obtain ⟨ps, p1, p2, g7, p3⟩ := toPs_ok hcx g6
      have hlx : l[q]? = some l[q] := List.getElem?_eq_getElem hlt
      rcases ifP_ok (allB_ok g7 l[q]) with ⟨_, g8⟩ | ⟨q, _⟩
      case inr => exact absurd hlx q
      obtain ⟨y', g9⟩ := exB_ok g8
      obtain ⟨⟨ho, henc⟩, g10⟩ := mustP_ok g9
      obtain ⟨M', hK, hg1, hg2⟩ := T.set_ok _ _ _ _ _ g10
      obtain ⟨e', q1, hsz, ⟨_, q2⟩ | ⟨c, arr, q2, q3, r⟩⟩ := h.prow hi
      · subst q2; simp at hlt
      rw [he] at q1; cases q1
      have hlen : q * sz + o + y.cells.toList.length ≤ l.length * sz := by
        rw [p2, List.length_map]
        have : (q + 1) * sz ≤ l.length * sz := Nat.mul_le_mul_right _ (by omega)
        rw [Nat.add_mul, Nat.one_mul] at this
        omega
      have hle : l.length * sz ≤ arr.size := by rw [r.size]; exact Nat.mul_le_mul_right _ r.le
      obtain ⟨w', hr, w1, w2, w3, w4, w5, w6⟩ := run_storeX (P := P) (q * sz + o) y.cells.toList 0 w arr r.heap (by omega) (by
        rw [p2, List.all_map]
        exact List.all_eq_true.2 fun u hu => valP_one (p1 u hu))
      rw [Nat.add_zero] at w1
      have hB : hasB e (.prow Ty sz α l enc) = true := hasB_prow q2
      have hsp := splice_eq y.cells.toList arr (q * sz + o) (by omega)
      have hfm := flatMap_set q3 hlx ho henc
      refine ⟨M', w', h.turn (o' := .prow Ty sz α (l.set q y') enc) (ob' := .cells (splice arr (q * sz + o) y.cells.toList) Ty (0, 0)) hi he w2 w3 w4 (fun b _ hb => w6 b hb) w1 ⟨splice arr (q * sz + o) y.cells.toList, ((l.set q y').flatMap enc).map valP, rfl, hsz, ?_, denPs_mk ?_, ?_, ?_, ?_, ?_⟩ hg1 hg2 hB (hasB_prow q2), hK, ?_⟩
      · intro x hx
        rcases List.mem_or_eq_of_mem_set hx with hx | rfl
        · exact q3 x hx
        · rw [henc]
          have := q3 _ (List.mem_of_getElem? hlx)
          simp only [List.length_append, List.length_take, List.length_drop]
          omega
      · intro p hp
        rw [hfm] at hp
        simp only [List.mem_append] at hp
        rcases hp with (hp | hp) | hp
        · exact r.ok p (List.mem_of_mem_take hp)
        · exact p1 p hp
        · exact r.ok p (List.mem_of_mem_drop hp)
      · rw [splice_size, r.size, q2]; simp
      · rw [List.length_set, hsp, hfm, List.map_append, List.map_append, List.map_take, List.map_drop, p2, List.length_map]
        have hlen' : q * sz + o + (ps.map valP).length ≤ l.length * sz := by rw [← p2]; exact hlen
        rw [List.length_map] at hlen'
        have := take_splice (arr := arr.toList) (xs := (l.flatMap enc).map valP) (ys := ps.map valP) (o := q * sz + o) (L := l.length * sz) r.take (by rw [List.length_map]; exact hlen') (by rw [Array.length_toList]; exact hle)
        rw [List.length_map] at this
        exact this
      · rw [List.length_set, q2]; simpa using r.le
      · rw [q2]; simpa using r.max
      · have hsz2 : y.cells.size = n := by rw [← Array.length_toList, hcl, hn']
        simp [Instr.storeAt, Instr.sureAddr, storeVar, Go.Eng.run_sizeOf hs, hsz2, hr]
  · exact stX_ok hE h hv hx g hs
end
end Go.Sy
