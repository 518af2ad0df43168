/- The executor: reading and writing memory. No condition: definitions and plain lemmas. -/
import Derived.Test.YtkahniffcehicaaYD
import Derived.Laws.MakeOwn
namespace Go.Sy
open Go Go.RowKit Go.Eng

noncomputable def atO {α : Type _} (o : Option α) (K : α → Bool) : Bool := Option.casesOn o false K
theorem atO_ok {α : Type _} {o : Option α} {K : α → Bool} (h : atO o K = true) : ∃ x, o = some x ∧ K x = true := by
  cases o with
  | none => cases h
  | some x => exact ⟨x, rfl, h⟩
noncomputable def blkOf (M : T) (i : Nat) (K : Bool → Nat → Nat → List (List AV) → Bool) : Bool := atO (M.get i) fun ob => AObj.casesOn ob K (fun _ _ => false) (fun _ _ _ _ => false) false (fun _ _ _ _ _ => false)
theorem blkOf_ok {M : T} {i : Nat} {K : Bool → Nat → Nat → List (List AV) → Bool} (h : blkOf M i K = true) : ∃ g Ty sz els, M.get i = some (.blk g Ty sz els) ∧ K g Ty sz els = true := by
  obtain ⟨ob, h1, h2⟩ := atO_ok h
  cases ob <;> first | exact ⟨_, _, _, _, h1, h2⟩ | cases h2
noncomputable def mapOf (M : T) (i : Nat) (K : List (AV × AV × Nat) → Nat → Bool) : Bool := atO (M.get i) fun ob => AObj.casesOn ob (fun _ _ _ _ => false) K (fun _ _ _ _ => false) false (fun _ _ _ _ _ => false)
theorem mapOf_ok {M : T} {i : Nat} {K : List (AV × AV × Nat) → Nat → Bool} (h : mapOf M i K = true) : ∃ es cl, M.get i = some (.map es cl) ∧ K es cl = true := by
  obtain ⟨ob, h1, h2⟩ := atO_ok h
  cases ob <;> first | exact ⟨_, _, h1, h2⟩ | cases h2
noncomputable def iterOf (M : T) (i : Nat) (K : Option Nat → Nat → List Nat → Nat → Bool) : Bool := atO (M.get i) fun ob => AObj.casesOn ob (fun _ _ _ _ => false) (fun _ _ => false) K false (fun _ _ _ _ _ => false)
theorem iterOf_ok {M : T} {i : Nat} {K : Option Nat → Nat → List Nat → Nat → Bool} (h : iterOf M i K = true) : ∃ m s se st, M.get i = some (.iter m s se st) ∧ K m s se st = true := by
  obtain ⟨ob, h1, h2⟩ := atO_ok h
  cases ob <;> first | exact ⟨_, _, _, _, h1, h2⟩ | cases h2

/-! ### Elements one behind the other -/
theorem flat_at_el {α : Type _} {sz : Nat} : ∀ {els : List (List α)} {q : Nat} {el : List α}, (∀ l ∈ els, l.length = sz) → els[q]? = some el → ∃ rest, els.flatten.drop (q * sz) = el ++ rest ∧ (q + 1) * sz ≤ els.flatten.length
  | [], q, el, _, h => by simp at h
  | x :: els, 0, el, ha, h => by
    simp at h; subst h
    refine ⟨els.flatten, by simp, ?_⟩
    have := ha x (by simp)
    simp [this]
  | x :: els, q + 1, el, ha, h => by
    obtain ⟨rest, h1, h2⟩ := flat_at_el (fun l hl => ha l (by simp [hl])) (show els[q]? = some el by simpa using h)
    have hx := ha x (by simp)
    refine ⟨rest, ?_, ?_⟩
    · rw [List.flatten_cons, Nat.add_mul, Nat.one_mul, Nat.add_comm, ← hx, ← List.drop_drop, List.drop_left, hx]
      exact h1
    · rw [List.flatten_cons, List.length_append, hx, Nat.add_mul (q + 1)]
      omega
theorem flat_len {α : Type _} {sz : Nat} : ∀ {els : List (List α)}, (∀ l ∈ els, l.length = sz) → els.flatten.length = els.length * sz
  | [], _ => by simp
  | x :: els, ha => by
    rw [List.flatten_cons, List.length_append, ha x (by simp), flat_len (fun l hl => ha l (by simp [hl])), List.length_cons, Nat.add_mul]
    omega
theorem flat_cell {α : Type _} {sz : Nat} {els : List (List α)} {q r : Nat} {el : List α} {v : α} (ha : ∀ l ∈ els, l.length = sz) (hq : els[q]? = some el) (hv : el[r]? = some v) : els.flatten[q * sz + r]? = some v := by
  obtain ⟨rest, h1, _⟩ := flat_at_el ha hq
  rw [← List.getElem?_drop, h1, List.getElem?_append_left (List.getElem?_eq_some_iff.1 hv).1]
  exact hv
theorem upd_mid {α : Type _} {A el B vs : List α} {n r : Nat} (hA : A.length = n) (hr : r + vs.length ≤ el.length) :
    A ++ (el.take r ++ vs ++ el.drop (r + vs.length)) ++ B = (A ++ (el ++ B)).take (n + r) ++ vs ++ (A ++ (el ++ B)).drop (n + r + vs.length) := by
  subst hA
  have h1 : (A ++ (el ++ B)).take (A.length + r) = A ++ el.take r := by
    rw [List.take_append, List.take_of_length_le (by omega), Nat.add_sub_cancel_left, List.take_append_of_le_length (by omega)]
  have h2 : (A ++ (el ++ B)).drop (A.length + r + vs.length) = el.drop (r + vs.length) ++ B := by
    rw [List.drop_append, List.drop_of_length_le (by omega), List.nil_append, show A.length + r + vs.length - A.length = r + vs.length by omega, List.drop_append_of_le_length hr]
  rw [h1, h2]
  simp only [List.append_assoc]
theorem take_splice {α : Type _} {arr xs ys : List α} {o L : Nat} (hx : arr.take L = xs) (ho : o + ys.length ≤ L) (hL : L ≤ arr.length) : (arr.take o ++ ys ++ arr.drop (o + ys.length)).take L = xs.take o ++ ys ++ xs.drop (o + ys.length) := by
  subst hx
  rw [List.take_take, Nat.min_eq_left (by omega), List.drop_take, List.take_append, List.take_of_length_le (by simp only [List.length_append, List.length_take]; omega)]
  congr 1
  congr 1
  simp only [List.length_append, List.length_take]
  omega
/-- Cells of an element turned. -/
theorem flat_upd {α : Type _} {sz : Nat} {els : List (List α)} {q r : Nat} {el vs : List α} (ha : ∀ l ∈ els, l.length = sz) (hq : els[q]? = some el) (hr : r + vs.length ≤ el.length) :
    (els.take q ++ [el.take r ++ vs ++ el.drop (r + vs.length)] ++ els.drop (q + 1)).flatten = els.flatten.take (q * sz + r) ++ vs ++ els.flatten.drop (q * sz + r + vs.length) := by
  have hlt := (List.getElem?_eq_some_iff.1 hq).1
  have he : els.drop q = el :: els.drop (q + 1) := by
    rw [List.drop_eq_getElem_cons hlt]
    congr 1
    exact (List.getElem?_eq_some_iff.1 hq).2
  have hl : (els.take q).flatten.length = q * sz := by
    rw [flat_len (sz := sz) (fun l hl => ha l (List.mem_of_mem_take hl)), List.length_take, Nat.min_eq_left (Nat.le_of_lt hlt)]
  have hflat : els.flatten = (els.take q).flatten ++ (el ++ (els.drop (q + 1)).flatten) := by
    rw [← List.flatten_cons, ← he, ← List.flatten_append, List.take_append_drop]
  rw [hflat, ← upd_mid hl hr]
  simp
section
variable {P : Program} {E : Env} {ρ : Ren} {G : GS} {F : List Chunk} {M : T} {nx : Nat} {w : World}

/-- What lies in a block of cells. -/
theorem Sim.cellsAt (h : Sim E ρ G F M nx w) {i : Nat} {g : Bool} {Ty sz : Nat} {els : List (List AV)} (hi : M.get i = some (.blk g Ty sz els)) :
    ∃ e arr xs, ρ i = some e ∧ w.heap[e.b]? = some (.cells arr Ty (0, 0)) ∧ denL E ρ els.flatten = some xs ∧ (∀ l ∈ els, l.length = sz) ∧ 0 < sz ∧ xs.length ≤ arr.size ∧ arr.toList.take xs.length = xs ∧
      (g = false → arr.toList = xs) ∧ (g = true → arr.size = e.cap * sz ∧ els.length ≤ e.cap ∧ e.cap ≤ maxLen) := by
  obtain ⟨e, ob, h1, h2, h3⟩ := h.obj hi
  obtain ⟨ha, hs, arr, xs, rfl, hd, hg⟩ := h3
  have hx := denL_len hd
  rw [flat_len ha] at hx
  cases g with
  | false =>
    simp only [cond_false] at hg
    refine ⟨e, arr, xs, h1, h2, hd, ha, hs, by rw [← hg]; simp, by rw [← hg]; exact List.take_of_length_le (Nat.le_refl _), fun _ => hg, fun q => by cases q⟩
  | true =>
    simp only [cond_true] at hg
    obtain ⟨g1, g2, g3, g4⟩ := hg
    refine ⟨e, arr, xs, h1, h2, hd, ha, hs, ?_, by rw [hx]; exact g2, (fun q => by cases q), fun _ => ⟨g1, g3, g4⟩⟩
    rw [hx, g1]
    exact Nat.mul_le_mul_right _ g3
theorem Sim.cell (h : Sim E ρ G F M nx w) {i : Nat} {g : Bool} {Ty sz q r : Nat} {els : List (List AV)} {el : List AV} {v : AV} (hi : M.get i = some (.blk g Ty sz els)) (hq : els[q]? = some el) (hv : el[r]? = some v) :
    ∃ e x, ρ i = some e ∧ den E ρ v = some x ∧ w.cell? ⟨e.b, q * sz + r, none⟩ = some x := by
  obtain ⟨e, arr, xs, h1, h2, h3, h4, _, h6, h7, _⟩ := h.cellsAt hi
  obtain ⟨x, hx, hxs⟩ := denL_at h3 (flat_cell h4 hq hv)
  refine ⟨e, x, h1, hx, ?_⟩
  have hlt := (List.getElem?_eq_some_iff.1 hxs).1
  rw [← h7, List.getElem?_take_of_lt hlt] at hxs
  simp only [World.cell?, h2]
  simpa using hxs
/-- Some cells of an element. -/
theorem Sim.cells (h : Sim E ρ G F M nx w) {i : Nat} {g : Bool} {Ty sz q r n : Nat} {els : List (List AV)} {el : List AV} (hi : M.get i = some (.blk g Ty sz els)) (hq : els[q]? = some el) (hn : n ≤ (el.drop r).length) :
    ∃ e xs, ρ i = some e ∧ denL E ρ ((el.drop r).take n) = some xs ∧ xs.length = n ∧ ∀ j v, xs[j]? = some v → w.cell? ⟨e.b, q * sz + r + j, none⟩ = some v := by
  obtain ⟨e, arr, ys, h1, h2, h3, h4, _, h6, h7, _⟩ := h.cellsAt hi
  obtain ⟨rest, h8, _⟩ := flat_at_el h4 hq
  have hd := denL_drop (q * sz) h3
  rw [h8] at hd
  obtain ⟨as, bs, ha, hb, hab⟩ := denL_split hd
  have hd2 := denL_take n (denL_drop r ha)
  refine ⟨e, _, h1, hd2, ?_, fun j v hv => ?_⟩
  · have := denL_len hd2
    rw [this, List.length_take]; omega
  · obtain ⟨u, hu, hu2⟩ : ∃ u, ((el.drop r).take n)[j]? = some u ∧ den E ρ u = some v := by
      have hl := denL_len hd2
      have hj := (List.getElem?_eq_some_iff.1 hv).1
      obtain ⟨u, hu⟩ : ∃ u, ((el.drop r).take n)[j]? = some u := ⟨_, List.getElem?_eq_getElem (by omega)⟩
      obtain ⟨x, hx, hx2⟩ := denL_at hd2 hu
      rw [hx2] at hv; cases hv
      exact ⟨u, hu, hx⟩
    have hjn : j < n := by
      have := (List.getElem?_eq_some_iff.1 hu).1
      rw [List.length_take] at this; omega
    rw [List.getElem?_take_of_lt hjn, List.getElem?_drop] at hu
    obtain ⟨e', x, e1, e2, e3⟩ := h.cell hi hq hu
    rw [h1] at e1; cases e1
    rw [hu2] at e2; cases e2
    rw [Nat.add_assoc]
    exact e3

/-! ### Loads -/
noncomputable def ld1X (v : AV) (M : T) (K : AV → Bool) : Bool := asPtr v fun i o => blkOf M i fun _ _ sz els => atO (nth els (Nat.div o sz)) fun el => atO (nth el (Nat.mod o sz)) K
theorem ld1X_ok (h : Sim E ρ G F M nx w) {v : AV} {K : AV → Bool} {x : Value} (hv : den E ρ v = some x) (hk : ld1X v M K = true) {t : TypeId} (hag : isAg P t = some false) : ∃ u z, den E ρ u = some z ∧ K u = true ∧ (Instr.loadAt t x).run P w = .ok z w := by
  obtain ⟨i, o, rfl, k1⟩ := asPtr_ok hk
  obtain ⟨g, Ty, sz, els, hi, k2⟩ := blkOf_ok k1
  obtain ⟨el, hq, k3⟩ := atO_ok k2
  obtain ⟨u, hr, k4⟩ := atO_ok k3
  rw [nth_eq] at hq hr
  obtain ⟨e, z, h1, h2, h3⟩ := h.cell hi hq hr
  have ho : Nat.div o sz * sz + Nat.mod o sz = o := by
    have := Nat.div_add_mod o sz
    rw [Nat.mul_comm]; exact this
  rw [ho] at h3
  simp only [den, h1] at hv
  cases hv
  exact ⟨u, z, h2, k4, by simp [Instr.loadAt, Instr.sureAddr, loadVar, run_isAgg hag, load, Sem.run, h3]⟩
noncomputable def ldaX (n : Nat) (v : AV) (M : T) (K : AV → Bool) : Bool := asPtr v fun i o => blkOf M i fun _ _ sz els => atO (nth els (Nat.div o sz)) fun el => tak (drp el (Nat.mod o sz)) n fun cs => K (.agg cs)
theorem ldaX_ok (h : Sim E ρ G F M nx w) {n : Nat} {v : AV} {K : AV → Bool} {x : Value} (hv : den E ρ v = some x) (hk : ldaX n v M K = true) {t : TypeId} (hag : isAg P t = some true) (hs : szOf P t = some n) : ∃ u z, den E ρ u = some z ∧ K u = true ∧ (Instr.loadAt t x).run P w = .ok z w := by
  obtain ⟨i, o, rfl, k1⟩ := asPtr_ok hk
  obtain ⟨g, Ty, sz, els, hi, k2⟩ := blkOf_ok k1
  obtain ⟨el, hq, k3⟩ := atO_ok k2
  rw [nth_eq] at hq
  obtain ⟨k4, hle⟩ := tak_ok k3
  rw [drp_eq] at k4 hle
  obtain ⟨e, xs, h1, h2, h3, h4⟩ := h.cells hi hq hle
  have ho : Nat.div o sz * sz + Nat.mod o sz = o := by
    have := Nat.div_add_mod o sz
    rw [Nat.mul_comm]; exact this
  rw [ho] at h4
  simp only [den, h1] at hv
  cases hv
  subst h3
  have := Go.Eng.run_loadCells (P := P) (w := w) e.b o xs 0 #[] (fun j v hv => by simpa using h4 j v hv)
  exact ⟨_, .agg xs.toArray, by simp only [den, h2], k4, by simp [Instr.loadAt, Instr.sureAddr, loadVar, Go.Eng.run_isAgg hag, Go.Eng.run_sizeOf hs, loadCells, this]⟩

/-! ### Stores -/
theorem run_storeX {b : Nat} {Ty : TypeId} (o : Nat) : ∀ (vs : List Value) (i : Nat) (w : World) (c : Array Value), w.heap[b]? = some (.cells c Ty (0, 0)) → o + i + vs.length ≤ c.size → vs.all Value.oneCell' = true →
    ∃ w', (storeCells ⟨b, o, none⟩ vs i).run P w = .ok () w' ∧ w'.heap[b]? = some (.cells (splice c (o + i) vs) Ty (0, 0)) ∧ w'.os = w.os ∧ w'.tape = w.tape ∧ w'.output = w.output ∧ w'.heap.size = w.heap.size ∧ ∀ k, k ≠ b → w'.heap[k]? = w.heap[k]?
  | [], i, w, c, h, _, _ => ⟨w, rfl, h, rfl, rfl, rfl, rfl, fun _ _ => rfl⟩
  | v :: vs, i, w, c, hown, hb, h1 => by
    simp only [List.length_cons] at hb
    simp only [List.all_cons, Bool.and_eq_true] at h1
    have hcell : w.cell? ⟨b, o + i, none⟩ = some (c[o + i]'(by omega)) := by
      simp only [World.cell?, hown]
      exact Array.getElem?_eq_getElem (by omega)
    have hfr : w.frozen? ⟨b, o + i, none⟩ = false := by simp [World.frozen?, hown]
    have hrun : ∀ k : Sem Unit, (Sem.store .plain ⟨b, o + i, none⟩ v k).run P w = k.run P (w.setCell ⟨b, o + i, none⟩ v) := by
      intro k
      have := h1.1
      cases v <;> simp [Value.oneCell'] at this <;> simp [Sem.run, hcell, hfr]
    have hself : (w.setCell ⟨b, o + i, none⟩ v).heap[b]? = some (.cells (c.setIfInBounds (o + i) v) Ty (0, 0)) := by
      simp [World.setCell, Array.getElem?_modify, hown]
    obtain ⟨w', hr, h2, h3, h4, h5, h6, h7⟩ := run_storeX o vs (i + 1) (w.setCell ⟨b, o + i, none⟩ v) (c.setIfInBounds (o + i) v) hself (by simp; omega) h1.2
    refine ⟨w', ?_, h2, h3, h4, h5, by rw [h6]; simp [World.setCell], fun k hk => ?_⟩
    · simp only [storeCells, Sem.run_bind, add_mk, store, hrun]
      simp only [Sem.run, Result.andThen_ok, hr]
    · rw [h7 k hk]
      exact Below.heap_setCell _ _ _ _ hk
noncomputable def fuelT : Nat := 24
noncomputable def stX (n : Nat) (v x : AV) (M : T) (K : T → Bool) : Bool :=
  asPtr v fun i o => blkOf M i fun g Ty sz els => atO (nth els (Nat.div o sz)) fun el => must (Nat.beq (lenL (cellsA x)) n) (must (allOne (cellsA x))
    (upd el (Nat.mod o sz) (cellsA x) fun el' => upd els (Nat.div o sz) [el'] fun els' => T.set fuelT M i (some (.blk g Ty sz els')) K))
theorem stX_ok (hE : EOk E) (h : Sim E ρ G F M nx w) {n : Nat} {v x : AV} {K : T → Bool} {p y : Value} (hv : den E ρ v = some p) (hx : den E ρ x = some y) (hk : stX n v x M K = true) {t : TypeId} (hs : szOf P t = some n) :
    ∃ M' w', Sim E ρ G F M' nx w' ∧ K M' = true ∧ (Instr.storeAt t p y).run P w = .ok () w' := by
  obtain ⟨i, o, rfl, k1⟩ := asPtr_ok hk
  obtain ⟨g, Ty, sz, els, hi, k2⟩ := blkOf_ok k1
  obtain ⟨el, hq, k3⟩ := atO_ok k2
  rw [nth_eq] at hq
  obtain ⟨hn, k4⟩ := must_ok k3
  obtain ⟨h1, k5⟩ := must_ok k4
  obtain ⟨k6, hle⟩ := upd_ok k5
  obtain ⟨k7, hle2⟩ := upd_ok k6
  obtain ⟨M', hK, hg1, hg2⟩ := T.set_ok _ _ _ _ _ k7
  obtain ⟨e, arr, xs, e1, e2, e3, e4, e5, e6, e7, e8, e9⟩ := h.cellsAt hi
  have hcx := cellsA_den hE hx
  have hcl := denL_len hcx
  have hn' : (cellsA x).length = n := by rw [← lenL_eq]; exact Nat.eq_of_beq_eq_true hn
  have ho : Nat.div o sz * sz + Nat.mod o sz = o := by
    have := Nat.div_add_mod o sz
    rw [Nat.mul_comm]; exact this
  obtain ⟨rest, r1, r2⟩ := flat_at_el e4 hq
  have hell := e4 el (List.mem_of_getElem? hq)
  have hxl := denL_len e3
  have hsz : o + (cellsA x).length ≤ xs.length := by
    rw [hxl]
    have : (Nat.div o sz + 1) * sz = Nat.div o sz * sz + sz := by rw [Nat.add_mul, Nat.one_mul]
    omega
  obtain ⟨w', hr, w1, w2, w3, w4, w5, w6⟩ := run_storeX (P := P) o y.cells.toList 0 w arr e2 (by rw [hcl]; omega) (allOne_den hE h1 hcx)
  rw [Nat.add_zero] at w1
  simp only [den, e1] at hv
  cases hv
  refine ⟨M', w', h.turn hi e1 w2 w3 w4 (fun b _ hb => w6 b hb) w1 ?_ hg1 hg2, hK, ?_⟩
  · have hsp := splice_eq y.cells.toList arr o (by rw [hcl]; omega)
    have hlen' : ∀ l ∈ els.take (Nat.div o sz) ++ [el.take (Nat.mod o sz) ++ cellsA x ++ el.drop (Nat.mod o sz + (cellsA x).length)] ++ els.drop (Nat.div o sz + 1), l.length = sz := by
      intro l hl
      simp only [List.mem_append, List.mem_singleton] at hl
      rcases hl with (hl | rfl) | hl
      · exact e4 l (List.mem_of_mem_take hl)
      · simp only [List.length_append, List.length_take, List.length_drop]; omega
      · exact e4 l (List.mem_of_mem_drop hl)
    have hfl := flat_upd e4 hq hle
    rw [ho] at hfl
    have hden : denL E ρ (els.flatten.take o ++ cellsA x ++ els.flatten.drop (o + (cellsA x).length)) = some (xs.take o ++ y.cells.toList ++ xs.drop (o + (cellsA x).length)) :=
      denL_app (denL_app (denL_take _ e3) hcx) (denL_drop _ e3)
    refine ⟨hlen', e5, splice arr o y.cells.toList, xs.take o ++ y.cells.toList ++ xs.drop (o + (cellsA x).length), rfl, ?_, ?_⟩
    · rw [← hden]
      exact congrArg (denL E ρ) hfl
    · have hcount : (els.take (Nat.div o sz) ++ [el.take (Nat.mod o sz) ++ cellsA x ++ el.drop (Nat.mod o sz + (cellsA x).length)] ++ els.drop (Nat.div o sz + 1)).length = els.length := by
        simp only [List.length_append, List.length_take, List.length_drop, List.length_singleton, List.length_cons, List.length_nil] at hle2 ⊢
        omega
      cases g with
      | false =>
        simp only [cond_false]
        rw [hsp, e8 rfl, hcl]
      | true =>
        obtain ⟨q1, q2, q3⟩ := e9 rfl
        simp only [cond_true]
        refine ⟨by rw [splice_size]; exact q1, ?_, (show _ ≤ _ from by rw [← hcount] at q2; exact q2), q3⟩
        refine Eq.trans (congrArg (fun n => (splice arr o y.cells.toList).toList.take (n * sz)) hcount) ?_
        show (splice arr o y.cells.toList).toList.take (els.length * sz) = _
        rw [← flat_len e4, ← hxl, hsp, hcl]
        rw [← hcl]
        exact take_splice e7 (by rw [hcl]; exact hsz) (by rw [Array.length_toList]; exact e6)
  · have hsz2 : y.cells.size = n := by rw [← Array.length_toList, hcl, hn']
    simp [Instr.storeAt, Instr.sureAddr, storeVar, Go.Eng.run_sizeOf hs, hsz2, hr]
end
end Go.Sy
