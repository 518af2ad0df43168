/- The executor: slices, addresses, lengths. No condition: definitions and plain lemmas. -/
import Derived.Test.YtkahniffcehicaaYF
import Derived.Laws.Slices
import Derived.ArgAppend
namespace Go.Sy
open Go Go.RowKit Go.Eng

/-- A list cut into pieces of one length. -/
noncomputable def chunkX (sz : Nat) : Nat → List AV → (List (List AV) → Bool) → Bool := Nat.rec (fun l K => List.casesOn l (K []) (fun _ _ => false)) (fun _ ih l K => tak l sz fun a => ih (drp l sz) fun r => K (a :: r))
theorem chunkX_ok {sz : Nat} : ∀ {n : Nat} {l : List AV} {K : List (List AV) → Bool}, chunkX sz n l K = true → ∃ els, K els = true ∧ els.flatten = l ∧ (∀ e ∈ els, e.length = sz) ∧ els.length = n
  | 0, l, K, h => by
    cases l with
    | nil => exact ⟨[], h, rfl, by simp, rfl⟩
    | cons a l => cases h
  | n + 1, l, K, h => by
    have h' : tak l sz (fun a => chunkX sz n (drp l sz) fun r => K (a :: r)) = true := h
    obtain ⟨h1, h2⟩ := tak_ok h'
    rw [drp_eq] at h1
    obtain ⟨els, h3, h4, h5, h6⟩ := chunkX_ok h1
    refine ⟨_, h3, ?_, ?_, by simp [h6]⟩
    · rw [List.flatten_cons, h4, List.take_append_drop]
    · intro e he
      rcases List.mem_cons.1 he with rfl | he
      · rw [List.length_take]; omega
      · exact h5 e he
noncomputable def repX (z : List AV) : Nat → (List (List AV) → Bool) → Bool := Nat.rec (fun K => K []) (fun _ ih K => ih fun r => K (z :: r))
theorem repX_eq (z : List AV) : ∀ (n : Nat) (K : List (List AV) → Bool), repX z n K = K (List.replicate n z)
  | 0, _ => rfl
  | n + 1, K => by
    have : repX z (n + 1) K = repX z n (fun r => K (z :: r)) := rfl
    rw [this, repX_eq z n]; rfl

theorem made_rep {z : Array Value} {sz : Nat} (hz : z.size = sz) (h0 : 0 < sz) (c : Nat) : madeCells z (c * sz) = (List.replicate c z.toList).flatten.toArray := by
  apply Array.ext'
  apply List.ext_getElem?
  intro i
  have hfl : (List.replicate c z.toList).flatten.length = c * sz := by
    rw [flat_len (sz := sz) (fun l hl => by rw [List.eq_of_mem_replicate hl]; simpa using hz)]
    simp
  rcases Nat.lt_or_ge i (c * sz) with hi | hi
  · have hr : i % sz < sz := Nat.mod_lt _ h0
    have hq : i / sz < c := Nat.div_lt_of_lt_mul (by rw [Nat.mul_comm]; exact hi)
    have h1 : (List.replicate c z.toList)[i / sz]? = some z.toList := by rw [List.getElem?_replicate]; simp [hq]
    have h2 : z.toList[i % sz]? = some (z[i % sz]'(by omega)) := by simp
    have h3 := flat_cell (sz := sz) (fun l hl => by rw [List.eq_of_mem_replicate hl]; simpa using hz) h1 h2
    rw [Nat.mul_comm, Nat.div_add_mod] at h3
    simp only [List.toList_toArray]
    rw [h3]
    simp [madeCells, hi, hz, hr]
  · rw [List.getElem?_eq_none (by simp [madeCells]; exact hi), List.getElem?_eq_none (by simp only [List.toList_toArray]; omega)]
section
variable {P : Program} {E : Env} {ρ : Ren} {G : GS} {F : List Chunk} {M : T} {nx : Nat} {w : World}

/-! ### A slice's literal -/
noncomputable def bslX (Ty sz len : Nat) (z : List AV) (ps : List (Nat × AV)) (M : T) (nx : Nat) (K : AV → T → Nat → Bool) : Bool :=
  must (Nat.blt 0 sz) (fillX ps z fun cs => chunkX sz len cs fun els => putX false Ty sz els M nx fun M' n => K (.sl nx 0 len (.ex len)) M' n)
/-- The cells of a slice's literal before its parts. -/
def zerosOk (P : Program) (Ty sz len : Nat) : Option (List Value) := match P.info? Ty with
  | some i => match i.zero with
    | some z => bif Nat.beq i.size sz && Nat.ble (len * sz) 16777216 && Nat.beq z.cells.size sz then some ((List.range (len * sz)).map fun j => z.cells[j % sz]!) else none
    | none => none
  | none => none
theorem bslX_ok (hE : EOk E) (h : Sim E ρ G F M nx w) {t Ty sz len : Nat} (ht : P.underlying t = some (.slice Ty)) {z : List AV} {zs : List Value} (hz : zerosOk P Ty sz len = some zs) (hzd : denL E ρ z = some zs) {is : List Nat} {ps : List (Nat × Nat)}
    (hp : partsOk P t is ps = true) {vs : List AV} {ys : List Value} {K : AV → T → Nat → Bool} (hv : denL E ρ vs = some ys) (hlen : vs.length = is.length) (hsz : ∀ (k : Nat) (p : Nat × Nat) (y : Value), ps[k]? = some p → ys[k]? = some y → y.cells.size = p.2)
    (hk : bslX Ty sz len z ((ps.map (·.1)).zip vs) M nx K = true) :
    ∃ v M' nx' ρ' w' x, ρ.Le ρ' ∧ Sim E ρ' G F M' nx' w' ∧ K v M' nx' = true ∧ den E ρ' v = some x ∧ (Instr.buildSlice t len (is.zip ys).toArray).run P w = .ok x w' := by
  obtain ⟨hs0, hk⟩ := must_ok hk
  rw [Nat.blt_eq] at hs0
  have hp : is.map (plc P t) = ps.map some := of_decide_eq_true hp
  have hpl : ps.length = is.length := by have := congrArg List.length hp; simpa using this.symm
  have hyl := denL_len hv
  have h2 : ((ps.map (·.1)).zip vs).map (·.2) = vs := by
    rw [List.map_snd_zip]; simp; omega
  unfold zerosOk at hz
  rcases hi : P.info? Ty with _ | inf
  · simp [hi] at hz
  rcases hi2 : inf.zero with _ | z0
  · simp [hi, hi2] at hz
  simp only [hi, hi2] at hz
  cases hb : (Nat.beq inf.size sz && Nat.ble (len * sz) 16777216 && Nat.beq z0.cells.size sz) with
  | false => simp [hb] at hz
  | true =>
  simp only [hb, cond_true, Option.some.injEq] at hz
  simp only [Bool.and_eq_true, Nat.beq_eq, Nat.ble_eq] at hb
  obtain ⟨⟨q1, q2⟩, q3⟩ := hb
  have hszof : szOf P Ty = some sz := by simp [szOf, hi, q1]
  have hplc : ∀ i, plc P t i = some (i * sz, sz) := fun i => by simp [plc, ht, hszof]
  obtain ⟨cs', zs', g1, g2, g3, g4⟩ := fillX_ok hE (place := fun i => some (i * sz, sz)) (is := is) (vs := ys) (zs := zs.toArray) hk (by simpa using hzd) (by rw [h2]; exact hv) (by simp; omega) fun k p i y e1 e2 e3 => by
    have h3 : (is.map (plc P t))[k]? = (ps.map some)[k]? := by rw [hp]
    rw [List.getElem?_map, List.getElem?_map, e2] at h3
    obtain ⟨q, hq, hq2⟩ : ∃ q, ps[k]? = some q ∧ p.1 = q.1 := by
      rw [List.getElem?_zip_eq_some, List.getElem?_map] at e1
      obtain ⟨e4, _⟩ := e1
      rcases hq : ps[k]? with _ | q
      · rw [hq] at e4; simp at e4
      · rw [hq] at e4; simp at e4; exact ⟨q, rfl, e4.symm⟩
    rw [hq] at h3
    simp only [Option.map_some, Option.some.injEq, hplc] at h3
    rw [h3, hq2, hsz k q y hq e3]
  obtain ⟨els, k1, k2, k3, k4⟩ := chunkX_ok g1
  obtain ⟨M', ρ', m1, m2, m3, m4⟩ := putX_ok h k1 k3 hs0 (by rw [k2]; exact g2)
  refine ⟨_, M', _, ρ', _, _, m1, m3, m4, by simp [den, m2, capOf]; rfl, ?_⟩
  have e1 : ((Array.range (len * sz)).map (z0.cells[· % z0.cells.size]!)) = zs.toArray := by
    rw [← hz, q3]
    apply Array.ext'
    simp
  have hszr := Go.Eng.run_sizeOf hszof
  have hzv : (zeroValue Ty : Sem Value).run P w = .ok z0 w := by simp [zeroValue, typeInfo, hi, hi2]
  simp only [Instr.buildSlice, Sem.run_bind, run_underlying ht, Result.andThen_ok, hszr, if_neg (show ¬ len * sz > 2 ^ 24 by omega)]
  by_cases h0 : len * sz = 0
  · have hzs : zs = [] := by rw [← hz, h0]; rfl
    simp only [h0, if_true, Sem.run_pure, Result.andThen_ok, Array.range_zero', Array.map_empty]
    rw [hzs] at g3
    simp [g3, newRow, newObj, Sem.run]
  · simp only [h0, if_false, Sem.run_bind, hzv, Result.andThen_ok, Sem.run_pure, e1, g3]
    simp [newRow, newObj, Sem.run]

/-! ### make -/
noncomputable def mksX (Ty sz bytes : Nat) (z : List AV) (vl vc : AV) (M : T) (nx : Nat) (K : AV → T → Nat → Bool) : Bool :=
  asI vl fun _ l => asI vc fun _ c => Int.casesOn l (fun l => Int.casesOn c (fun c => must (Nat.ble l c) (must (Nat.ble (Nat.mul bytes c) 1000000) (must (Nat.ble c 1000000) (must (Nat.blt 0 sz) (must (Nat.beq (lenL z) sz) (repX z c fun els => putX false Ty sz els M nx fun M' n => K (.sl nx 0 l (.ex c)) M' n))))))
    (fun _ => false)) (fun _ => false)
theorem mksX_ok (h : Sim E ρ G F M nx w) {t Ty sz bytes : Nat} (ht : P.underlying t = some (.slice Ty)) (he : elemOk P Ty sz bytes = true) {z : List AV} {zs : Array Value} (hz : zeroC P Ty = some zs) (hzd : denL E ρ z = some zs.toList) {vl vc : AV} {xl xc : Value} (hl : den E ρ vl = some xl) (hc : den E ρ vc = some xc)
    {K : AV → T → Nat → Bool} (hk : mksX Ty sz bytes z vl vc M nx K = true) : ∃ v M' nx' ρ' w' x, ρ.Le ρ' ∧ Sim E ρ' G F M' nx' w' ∧ K v M' nx' = true ∧ den E ρ' v = some x ∧ (Instr.makeSlice t xl xc).run P w = .ok x w' := by
  obtain ⟨k1, l, rfl, hk1⟩ := asI_ok hk
  obtain ⟨k2, c, rfl, hk2⟩ := asI_ok hk1
  cases hl; cases hc
  cases l with
  | negSucc l => cases hk2
  | ofNat l =>
  cases c with
  | negSucc c => cases hk2
  | ofNat c =>
  obtain ⟨a1, b1⟩ := must_ok (b := Nat.ble l c) hk2
  obtain ⟨a2, b2⟩ := must_ok b1
  obtain ⟨a3, b3⟩ := must_ok b2
  obtain ⟨a4, b4⟩ := must_ok b3
  obtain ⟨a5, b5⟩ := must_ok b4
  rw [repX_eq] at b5
  rw [Nat.ble_eq] at a1 a2 a3
  have a2 : bytes * c ≤ 1000000 := a2
  rw [Nat.blt_eq] at a4
  have a5 : z.length = sz := by rw [← lenL_eq]; exact Nat.eq_of_beq_eq_true a5
  obtain ⟨inf, z0, i1, i2, i3, i4, i5, i6⟩ := elem_parts he
  have hz0 : zs = z0.cells := by
    unfold zeroC at hz
    simp only [i1, Option.bind_some, i2, Option.map_some, Option.some.injEq] at hz
    exact hz.symm
  have hrep : ∀ n, denL E ρ (List.replicate n z).flatten = some (List.replicate n zs.toList).flatten := by
    intro n
    induction n with
    | zero => rfl
    | succ n ih => simp only [List.replicate_succ, List.flatten_cons]; exact denL_app hzd ih
  obtain ⟨M', ρ', m1, m2, m3, m4⟩ := putX_ok h b5 (fun e he => by rw [List.eq_of_mem_replicate he]; exact a5) a4 (hrep c)
  have hcells : madeCells z0.cells (c * inf.size) = (List.replicate c zs.toList).flatten.toArray := by
    subst hz0
    rw [i3]
    exact made_rep (by rw [i4]) i6 c
  refine ⟨_, M', _, ρ', _, _, m1, m3, m4, by simp [den, m2, capOf]; rfl, ?_⟩
  have hr := Go.run_make (P := P) w t Ty inf z0 ht i1 i2 (kOf k1) (kOf k2) (Int.ofNat l) (Int.ofNat c) (by simp) (by simp; exact a1) (by
      rw [i5]
      have : ((bytes * c : Nat) : Int) ≤ 1000000 := by omega
      rw [Int.natCast_mul] at this
      simp only [Int.ofNat_eq_natCast]
      omega) (by simp only [Int.ofNat_eq_natCast]; omega)
  rw [hr]
  simp only [Int.ofNat_eq_natCast, Int.toNat_natCast, hcells]
end
end Go.Sy
