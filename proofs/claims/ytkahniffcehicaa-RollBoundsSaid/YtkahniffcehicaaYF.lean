/- The executor: new memory, structs, slices, addresses. No condition: definitions and plain lemmas. -/
import Derived.Test.YtkahniffcehicaaYE
namespace Go.Sy
open Go Go.RowKit Go.Eng

section
variable {P : Program} {E : Env} {ρ : Ren} {G : GS} {F : List Chunk} {M : T} {nx : Nat} {w : World}

/-! ### New blocks -/
/-- A new block of cells; what goes on is given its number's memory. -/
noncomputable def putX (g : Bool) (Ty sz : Nat) (els : List (List AV)) (M : T) (nx : Nat) (K : T → Nat → Bool) : Bool := T.set fuelT M nx (some (.blk g Ty sz els)) fun M' => fN (Nat.succ nx) fun n => K M' n
theorem putX_ok (h : Sim E ρ G F M nx w) {Ty sz : Nat} {els : List (List AV)} {K : T → Nat → Bool} {xs : List Value} (hk : putX false Ty sz els M nx K = true) (hlen : ∀ l ∈ els, l.length = sz) (hsz : 0 < sz) (hd : denL E ρ els.flatten = some xs) :
    ∃ M' ρ', ρ.Le ρ' ∧ ρ' nx = some ⟨w.heap.size, 0⟩ ∧ Sim E ρ' G F M' (nx + 1) (w.alloc (.cells xs.toArray Ty)) ∧ K M' (nx + 1) = true := by
  obtain ⟨M', k1, k2, k3⟩ := T.set_ok _ _ _ _ _ hk
  rw [fN_eq] at k1
  have hn := h.fresh nx (Nat.le_refl _)
  exact ⟨M', ρ.set nx ⟨w.heap.size, 0⟩, Ren.le_set _ hn, Ren.set_self _ _ _, h.alloc (o := .blk false Ty sz els) hn (Nat.le_succ _) (Nat.lt_succ_self _) ⟨hlen, hsz, xs.toArray, xs, rfl, hd, by simp⟩ k2 k3, k1⟩
noncomputable def newX (Ty : Nat) (cs : List AV) (M : T) (nx : Nat) (K : AV → T → Nat → Bool) : Bool := putX false Ty (lenL cs) [cs] M nx fun M' n => K (.ptr nx 0) M' n
theorem newX_ok (h : Sim E ρ G F M nx w) {Ty : Nat} {cs : List AV} {K : AV → T → Nat → Bool} {xs : List Value} (hk : newX Ty cs M nx K = true) (hd : denL E ρ cs = some xs) (h0 : cs ≠ []) :
    ∃ M' ρ', ρ.Le ρ' ∧ Sim E ρ' G F M' (nx + 1) (w.alloc (.cells xs.toArray Ty)) ∧ K (.ptr nx 0) M' (nx + 1) = true ∧ den E ρ' (.ptr nx 0) = some (.pointer (some ⟨w.heap.size, 0, none⟩)) := by
  obtain ⟨M', ρ', h1, h2, h3, h4⟩ := putX_ok h (xs := xs) hk (fun l hl => by simp only [List.mem_singleton] at hl; subst hl; exact (lenL_eq _).symm) (by rw [lenL_eq]; exact List.length_pos_iff.2 h0) (by simpa using hd)
  exact ⟨M', ρ', h1, h3, h4, by simp [den, h2]⟩
theorem alloc_ok (h : Sim E ρ G F M nx w) {Ty : Nat} {cs : List AV} {K : AV → T → Nat → Bool} {zs : Array Value} (hz : zeroC P Ty = some zs) (hd : denL E ρ cs = some zs.toList) (h0 : cs ≠ []) (hk : newX Ty cs M nx K = true) :
    ∃ v M' nx' ρ' w' z, ρ.Le ρ' ∧ Sim E ρ' G F M' nx' w' ∧ K v M' nx' = true ∧ den E ρ' v = some z ∧ (Instr.alloc Ty true (.tuple #[])).run P w = .ok z w' := by
  obtain ⟨M', ρ', h1, h2, h3, h4⟩ := newX_ok h hk hd h0
  refine ⟨_, M', _, ρ', _, _, h1, h2, h3, h4, ?_⟩
  obtain ⟨z, hz1, hz2⟩ := run_zero hz w
  subst hz2
  simp [Instr.alloc, hz1, newVar, newRow, newObj, Sem.run]
noncomputable def boxX (Ty : Nat) (v : AV) (M : T) (nx : Nat) (K : AV → T → Nat → Bool) : Bool := must (Nat.blt 0 (lenL (cellsA v))) (newX Ty (cellsA v) M nx K)
theorem boxX_ok (hE : EOk E) (h : Sim E ρ G F M nx w) {Ty : Nat} {v : AV} {K : AV → T → Nat → Bool} {x : Value} (hx : den E ρ v = some x) (hk : boxX Ty v M nx K = true) :
    ∃ v M' nx' ρ' w' z, ρ.Le ρ' ∧ Sim E ρ' G F M' nx' w' ∧ K v M' nx' = true ∧ den E ρ' v = some z ∧ (Instr.box Ty x).run P w = .ok z w' := by
  obtain ⟨k0, k1⟩ := must_ok hk
  rw [Nat.blt_eq, lenL_eq] at k0
  obtain ⟨M', ρ', h1, h2, h3, h4⟩ := newX_ok h k1 (cellsA_den hE hx) (fun e => by rw [e] at k0; simp at k0)
  exact ⟨_, M', _, ρ', _, _, h1, h2, h3, h4, by simp [Instr.box, newVar, newRow, newObj, Sem.run]⟩

/-! ### Parts put into cells -/
theorem fill_set : ∀ (l : List Value) (cs : Array Value) (off k : Nat), off + k + l.length ≤ cs.size → ((l.zipIdx k).foldl (fun cs p => cs.setIfInBounds (off + p.2) p.1) cs) = splice cs (off + k) l
  | [], cs, off, k, _ => rfl
  | v :: l, cs, off, k, h => by
    simp only [List.length_cons] at h
    simp only [List.zipIdx_cons, List.foldl_cons, splice]
    rw [fill_set l _ off (k + 1) (by simp; omega), Nat.add_assoc]
/-- The parts of a literal: where each goes, of how many cells, which value. -/
noncomputable def fillX (ps : List (Nat × AV)) : List AV → (List AV → Bool) → Bool := List.rec (fun cs K => K cs) (fun p _ ih cs K => upd cs p.1 (cellsA p.2) fun cs' => ih cs' K) ps
theorem fillX_ok (hE : EOk E) {place : Nat → Option (Nat × Nat)} : ∀ {ps : List (Nat × AV)} {is : List Nat} {vs : List Value} {cs : List AV} {K : List AV → Bool} {zs : Array Value}, fillX ps cs K = true → denL E ρ cs = some zs.toList →
    denL E ρ (ps.map (·.2)) = some vs → ps.length = is.length → (∀ (k : Nat) (p : Nat × AV) (i : Nat) (y : Value), ps[k]? = some p → is[k]? = some i → vs[k]? = some y → place i = some (p.1, y.cells.size)) →
    ∃ cs' zs', K cs' = true ∧ denL E ρ cs' = some zs'.toList ∧ Instr.fill place zs (is.zip vs) = some zs' ∧ zs'.size = zs.size
  | [], is, vs, cs, K, zs, h, hd, hv, hl, _ => by
    have : is = [] := by cases is <;> simp at hl ⊢
    subst this
    exact ⟨cs, zs, h, hd, by simp [Instr.fill], rfl⟩
  | (off, v) :: ps, is, vs, cs, K, zs, h, hd, hv, hl, hp => by
    obtain ⟨i, is, rfl⟩ : ∃ i is', is = i :: is' := by
      cases is with
      | nil => simp at hl
      | cons i is => exact ⟨i, is, rfl⟩
    have h' : upd cs off (cellsA v) (fun cs' => fillX ps cs' K) = true := h
    obtain ⟨h1, h2⟩ := upd_ok h'
    obtain ⟨y, ys, hy, hys, rfl⟩ := denL_cons (v := v) (r := ps.map (·.2)) hv
    have hc := cellsA_den hE hy
    have hcl := denL_len hc
    have hdl := denL_len hd
    have hpl := hp 0 (off, v) i y rfl rfl rfl
    have hb : off + y.cells.size ≤ zs.size := by
      rw [← Array.length_toList (xs := y.cells), hcl, ← Array.length_toList (xs := zs), hdl]; exact h2
    have hsp := splice_eq y.cells.toList zs off (by rw [Array.length_toList]; exact hb)
    have hd2 : denL E ρ (cs.take off ++ cellsA v ++ cs.drop (off + (cellsA v).length)) = some (splice zs off y.cells.toList).toList := by
      rw [hsp]
      refine denL_app (denL_app (denL_take _ hd) hc) ?_
      rw [hcl]
      exact denL_drop _ hd
    obtain ⟨cs', zs', g1, g2, g3, g4⟩ := fillX_ok hE (place := place) (ps := ps) (is := is) h1 hd2 hys (by simpa using hl) fun k p i y e1 e2 e3 => hp (k + 1) p i y (by simpa using e1) (by simpa using e2) (by simpa using e3)
    refine ⟨cs', zs', g1, g2, ?_, by rw [g4, splice_size]⟩
    simp only [List.zip_cons_cons, Instr.fill, hpl]
    rw [if_neg (by simp; omega)]
    rw [← Array.foldl_toList, Array.toList_zipIdx]
    have := fill_set y.cells.toList zs off 0 (by rw [Array.length_toList]; omega)
    rw [Nat.add_zero] at this
    simp only [this]
    exact g3

/-- What stands in a literal: which part goes to which place, and with how many cells. -/
def plc (P : Program) (t : TypeId) (i : Nat) : Option (Nat × Nat) := match P.underlying t with
  | some (.struct fs) => match fs[i]? with
    | some f => (szOf P f.type).map fun n => (f.offset, n)
    | none => none
  | some (.array _ e) => (szOf P e).map fun n => (i * n, n)
  | some (.slice e) => (szOf P e).map fun n => (i * n, n)
  | _ => none
def fldsOk (P : Program) (t : TypeId) : Bool := match P.underlying t with
  | some (.struct fs) => fs.toList.all fun f => (szOf P f.type).isSome
  | some (.array _ e) => (szOf P e).isSome
  | _ => false
theorem run_places {fs : List Field} (h : ∀ f ∈ fs, (szOf P f.type).isSome = true) (w : World) : ∃ l : List (Nat × Nat), (fs.mapM (fun f => (do pure (f.offset, ← sizeOf f.type) : Sem (Nat × Nat)))).run P w = .ok l w ∧ l.length = fs.length ∧ ∀ (i : Nat) (f : Field) (n : Nat), fs[i]? = some f → szOf P f.type = some n → l[i]? = some (f.offset, n) := by
  induction fs with
  | nil => exact ⟨[], by simp [List.mapM_nil], rfl, fun i f n h => by simp at h⟩
  | cons f fs ih =>
    obtain ⟨l, h1, h2, h3⟩ := ih fun g hg => h g (by simp [hg])
    obtain ⟨n, hn⟩ := Option.isSome_iff_exists.1 (h f (by simp))
    refine ⟨(f.offset, n) :: l, ?_, by simp [h2], fun i g m hi hm => ?_⟩
    · simp only [List.mapM_cons, Sem.run_bind, Go.Eng.run_sizeOf hn, Result.andThen_ok, h1, Sem.run_pure]
    · cases i with
      | zero =>
        simp at hi; subst hi
        rw [hn] at hm; cases hm
        rfl
      | succ i => simpa using h3 i g m (by simpa using hi) hm
theorem run_build {t : TypeId} {zs zs' : Array Value} (hz : zeroC P t = some zs) (hf : fldsOk P t = true) {is : List Nat} {vs : List Value} (hl : is.length = vs.length) (hfill : Instr.fill (plc P t) zs (is.zip vs) = some zs') (hin : ∀ i ∈ is, plc P t i ≠ none) (w : World) :
    (Instr.build t (is.zip vs).toArray).run P w = .ok (.agg zs') w := by
  obtain ⟨z, hz1, rfl⟩ := run_zero hz w
  unfold fldsOk at hf
  have hcong : ∀ (place place' : Nat → Option (Nat × Nat)) (l : List (Nat × Value)) (zs : Array Value), (∀ p ∈ l, place p.1 = place' p.1) → Instr.fill place zs l = Instr.fill place' zs l := by
    intro place place' l
    induction l with
    | nil => intro zs _; rfl
    | cons p l ih =>
      intro zs h
      obtain ⟨i, v⟩ := p
      simp only [Instr.fill, h (i, v) (by simp)]
      split
      · rfl
      · split
        · rfl
        · exact ih _ fun q hq => h q (by simp [hq])
  have hmem : ∀ p ∈ is.zip vs, p.1 ∈ is := fun p hp => (List.of_mem_zip hp).1
  split at hf
  · rename_i fs hu
    obtain ⟨l, h1, h2, h3⟩ := run_places (P := P) (fs := fs.toList) (fun f hf' => by have := List.all_eq_true.1 hf f hf'; simpa using this) w
    have hm : (fs.mapM (fun f => (do pure (f.offset, ← sizeOf f.type) : Sem (Nat × Nat)))).run P w = .ok l.toArray w := by
      rw [Array.mapM_eq_mapM_toList]
      show Sem.run P (List.mapM _ fs.toList >>= fun a => pure a.toArray) w = _
      rw [Sem.run_bind, h1]
      rfl
    simp only [Instr.build, Sem.run_bind, hz1, Result.andThen_ok, run_underlying hu, hm]
    rw [hcong _ (plc P t) _ _ (fun p hp => ?_), hfill]
    · rfl
    · have hne := hin p.1 (hmem p hp)
      unfold plc at hne ⊢
      rw [hu] at hne ⊢
      simp only at hne ⊢
      rcases hf' : fs[p.1]? with _ | f
      · simp [hf'] at hne
      · simp only [hf'] at hne ⊢
        rcases hs : szOf P f.type with _ | n
        · simp [hs] at hne
        · simpa using h3 p.1 f n (by simpa using hf') hs
  · rename_i n e hu
    obtain ⟨m, hm⟩ := Option.isSome_iff_exists.1 hf
    have hp : ∀ i, plc P t i = some (i * m, m) := fun i => by simp [plc, hu, hm]
    simp only [Instr.build, Sem.run_bind, hz1, Result.andThen_ok, run_underlying hu, Go.Eng.run_sizeOf hm]
    rw [hcong _ (plc P t) _ _ (fun p _ => (hp p.1).symm), hfill]
    rfl
  · cases hf

noncomputable def bldX (z : List AV) (ps : List (Nat × AV)) (K : AV → Bool) : Bool := fillX ps z fun cs => K (.agg cs)
/-- Where the parts of a literal go, by their numbers. -/
def partsOk (P : Program) (t : TypeId) (is : List Nat) (ps : List (Nat × Nat)) : Bool := decide (is.map (plc P t) = ps.map some)
theorem bldX_ok (hE : EOk E) {t : TypeId} {z : List AV} {zs : Array Value} (hz : zeroC P t = some zs) (hzd : denL E ρ z = some zs.toList) (hf : fldsOk P t = true) {is : List Nat} {ps : List (Nat × Nat)} (hp : partsOk P t is ps = true) {vs : List AV} {ys : List Value} {K : AV → Bool}
    (hv : denL E ρ vs = some ys) (hlen : vs.length = is.length) (hsz : ∀ (k : Nat) (p : Nat × Nat) (y : Value), ps[k]? = some p → ys[k]? = some y → y.cells.size = p.2) (hk : bldX z ((ps.map (·.1)).zip vs) K = true) :
    ∃ u x, den E ρ u = some x ∧ K u = true ∧ ∀ w, (Instr.build t (is.zip ys).toArray).run P w = .ok x w := by
  have hp : is.map (plc P t) = ps.map some := of_decide_eq_true hp
  have hpl : ps.length = is.length := by have := congrArg List.length hp; simpa using this.symm
  have hyl := denL_len hv
  have h2 : ((ps.map (·.1)).zip vs).map (·.2) = vs := by
    rw [List.map_snd_zip]; simp; omega
  obtain ⟨cs', zs', g1, g2, g3, g4⟩ := fillX_ok hE (place := plc P t) (is := is) (vs := ys) hk hzd (by rw [h2]; exact hv) (by simp; omega) fun k p i y e1 e2 e3 => by
    have h3 : (is.map (plc P t))[k]? = (ps.map some)[k]? := by rw [hp]
    rw [List.getElem?_map, List.getElem?_map, e2] at h3
    obtain ⟨q, hq, hq2⟩ : ∃ q, ps[k]? = some q ∧ p.1 = q.1 := by
      rw [List.getElem?_zip_eq_some] at e1
      rw [List.getElem?_map] at e1
      obtain ⟨e4, _⟩ := e1
      rcases hq : ps[k]? with _ | q
      · rw [hq] at e4; simp at e4
      · rw [hq] at e4; simp at e4; exact ⟨q, rfl, e4.symm⟩
    rw [hq] at h3
    simp at h3
    rw [h3, hq2, hsz k q y hq e3]
  refine ⟨_, .agg zs', by simp [den, g2], g1, fun w => run_build hz hf (by omega) g3 (fun i hi => ?_) w⟩
  obtain ⟨k, hk'⟩ := List.mem_iff_getElem?.1 hi
  have h3 : (is.map (plc P t))[k]? = (ps.map some)[k]? := by rw [hp]
  rw [List.getElem?_map, List.getElem?_map, hk'] at h3
  rcases hq : ps[k]? with _ | q
  · rw [hq] at h3; simp at h3
  · rw [hq] at h3; simp at h3; rw [h3]; simp
end
end Go.Sy
