/- The executor: slicing, appending, lengths, addresses, texts. No condition: definitions and plain lemmas. -/
import Derived.Test.YtkahniffcehicaaYG
namespace Go.Sy
open Go Go.RowKit Go.Eng

section
variable {P : Program} {E : Env} {ρ : Ren} {G : GS} {F : List Chunk} {M : T} {nx : Nat} {w : World}

/-! ### Addresses -/
noncomputable def faX (off : Nat) (v : AV) (K : AV → Bool) : Bool := asPtr v fun i o => fN (Nat.add o off) fun o => K (.ptr i o)
theorem faX_ok {off : Nat} {v : AV} {K : AV → Bool} {x : Value} {t i : Nat} (h : fOff P t i = some off) (hv : den E ρ v = some x) (hk : faX off v K = true) : ∃ u z, den E ρ u = some z ∧ K u = true ∧ ∀ w, (Instr.fieldAt t x i).run P w = .ok z w := by
  obtain ⟨j, o, rfl, k1⟩ := asPtr_ok hk
  rw [fN_eq] at k1
  simp only [den] at hv
  split at hv
  · rename_i e he
    cases hv
    refine ⟨_, .pointer (some ⟨e.b, o + off, none⟩), by simp only [den, he]; rfl, k1, fun w => ?_⟩
    have h' := h
    unfold fOff at h'
    rcases ht : P.underlying t with _ | d
    · simp [ht] at h'
    rw [ht] at h'
    cases d <;> simp at h'
    rename_i fs
    rcases hf : fs[i]? with _ | f
    · simp [hf] at h'
    simp [Instr.fieldAt, Instr.sureAddr, run_underlying ht, hf, run_fieldPlace ht hf h]
  · cases hv
noncomputable def nckX (v : AV) (K : AV → Bool) : Bool := AV.casesOn v false (fun k z => K (.int k z)) (fun b => K (.bool b)) (fun l => K (.str l)) (fun i o => K (.ptr i o)) (fun i o n c => K (.sl i o n c)) (fun i => K (.map i)) false false false false false (fun t v => K (.iface t v)) (fun f c => K (.fn f c)) (fun _ => false) (fun _ => false) (fun _ => false) (fun _ => false) (fun _ => false)
theorem nckX_ok {v : AV} {K : AV → Bool} {x : Value} (hv : den E ρ v = some x) (hk : nckX v K = true) {a : Act} {o : Operand} (ha : a.eval o = x) {dst : Option Tmp} {ty : TypeId} {pos : String} {af : Array Edge} {g : Option (Nat × Bool)} :
    K v = true ∧ ∀ w, (execOp a.eval ⟨dst, .nilCheck o, ty, pos, af, g⟩).run P w = .ok (.value x) w := by
  cases v <;> first | (cases hk; done) | skip
  case int k z => cases hv; exact ⟨hk, fun w => by simp [execOp, ha]⟩
  case bool b => cases hv; exact ⟨hk, fun w => by simp [execOp, ha]⟩
  case str l => cases hv; exact ⟨hk, fun w => by simp [execOp, ha]⟩
  all_goals
    refine ⟨hk, fun w => ?_⟩
    unfold den at hv
    split at hv <;> first | (cases hv; done) | skip
    cases hv
    simp [execOp, ha]
noncomputable def asNat (v : AV) (K : Nat → Nat → Bool) : Bool := asI v fun k z => Int.casesOn z (fun n => K k n) (fun _ => false)
theorem asNat_ok {v : AV} {K : Nat → Nat → Bool} (h : asNat v K = true) : ∃ k n, v = .int k (.ofNat n) ∧ K k n = true := by
  obtain ⟨k, z, rfl, h1⟩ := asI_ok h
  cases z with
  | ofNat n => exact ⟨k, n, rfl, h1⟩
  | negSucc n => cases h1
noncomputable def ixaX (n sz : Nat) (v iv : AV) (K : AV → Bool) : Bool := asPtr v fun i o => asNat iv fun _ z => must (Nat.blt z n) (fN (Nat.add o (Nat.mul z sz)) fun o => K (.ptr i o))
theorem ixaX_ok {n sz : Nat} {v iv : AV} {K : AV → Bool} {x y : Value} {t e : TypeId} (ht : P.underlying t = some (.array n e)) (hs : szOf P e = some sz) (hv : den E ρ v = some x) (hi : den E ρ iv = some y) (hk : ixaX n sz v iv K = true) :
    ∃ u z, den E ρ u = some z ∧ K u = true ∧ ∀ w, (Instr.indexAt t x y).run P w = .ok z w := by
  obtain ⟨j, o, rfl, k1⟩ := asPtr_ok hk
  obtain ⟨kd, z, rfl, k2⟩ := asNat_ok k1
  obtain ⟨hz, k3⟩ := must_ok k2
  rw [fN_eq] at k3
  rw [Nat.blt_eq] at hz
  simp only [den] at hv
  split at hv
  · rename_i f hf
    cases hv; cases hi
    refine ⟨_, .pointer (some ⟨f.b, o + z * sz, none⟩), by simp only [den, hf]; rfl, k3, fun w => ?_⟩
    simp [Instr.indexAt, Instr.sureAddr, asIntOf, run_underlying ht, Go.Eng.run_sizeOf hs, hz, add_mk]
  · cases hv
noncomputable def ixsX (sz : Nat) (v iv : AV) (K : AV → Bool) : Bool := asSl v false fun i o n _ => asNat iv fun _ z => must (Nat.blt z n) (fN (Nat.add o (Nat.mul z sz)) fun o => K (.ptr i o))
theorem ixsX_ok {sz : Nat} {v iv : AV} {K : AV → Bool} {x y : Value} {t e : TypeId} (ht : P.underlying t = some (.slice e)) (hs : szOf P e = some sz) (hv : den E ρ v = some x) (hi : den E ρ iv = some y) (hk : ixsX sz v iv K = true) :
    ∃ u z, den E ρ u = some z ∧ K u = true ∧ ∀ w, (Instr.indexAt t x y).run P w = .ok z w := by
  rcases asSl_ok hk with ⟨_, k1⟩ | ⟨j, o, n, c, rfl, k1⟩
  · cases k1
  obtain ⟨kd, z, rfl, k2⟩ := asNat_ok k1
  obtain ⟨hz, k3⟩ := must_ok k2
  rw [fN_eq] at k3
  rw [Nat.blt_eq] at hz
  simp only [den] at hv
  split at hv
  · rename_i f hf
    cases hv; cases hi
    refine ⟨_, .pointer (some ⟨f.b, o + z * sz, none⟩), by simp only [den, hf]; rfl, k3, fun w => ?_⟩
    simp [Instr.indexAt, asIntOf, run_underlying ht, Go.Eng.run_sizeOf hs, hz, add_mk]
  · cases hv
/-- A field of a struct's value. -/
noncomputable def fldX (agg : Bool) (off n : Nat) (v : AV) (K : AV → Bool) : Bool := asAgg v fun cs => ifB agg (tak (drp cs off) n fun l => K (.agg l)) (atO (nth cs off) K)
theorem part_ok {agg : Bool} {off n : Nat} {cs : List AV} {K : AV → Bool} {xs : List Value} (hd : denL E ρ cs = some xs) (hk : ifB agg (tak (drp cs off) n fun l => K (.agg l)) (atO (nth cs off) K) = true) {t : TypeId} (hag : isAg P t = some agg) (hs : szOf P t = some n) :
    ∃ u z, den E ρ u = some z ∧ K u = true ∧ ∀ w, (part t xs.toArray off).run P w = .ok z w := by
  rcases ifB_ok hk with ⟨rfl, k1⟩ | ⟨rfl, k1⟩
  · obtain ⟨k2, hle⟩ := tak_ok k1
    rw [drp_eq] at k2 hle
    have hd2 := denL_take n (denL_drop off hd)
    refine ⟨_, .agg ((xs.drop off).take n).toArray, by simp only [den, hd2], k2, fun w => ?_⟩
    simp [part, Go.Eng.run_isAgg hag, Go.Eng.run_sizeOf hs]
  · obtain ⟨u, hu, k2⟩ := atO_ok k1
    rw [nth_eq] at hu
    obtain ⟨z, h1, h2⟩ := denL_at hd hu
    refine ⟨u, z, h1, k2, fun w => ?_⟩
    simp [part, Go.Eng.run_isAgg hag, h2]
theorem fldX_ok {agg : Bool} {off n : Nat} {v : AV} {K : AV → Bool} {x : Value} {t i : TypeId} {fs : Array Field} {f : Field} (ht : P.underlying t = some (.struct fs)) (hf : fs[i]? = some f) (ho : f.offset = off) (hag : isAg P f.type = some agg) (hs : szOf P f.type = some n)
    (hv : den E ρ v = some x) (hk : fldX agg off n v K = true) : ∃ u z, den E ρ u = some z ∧ K u = true ∧ ∀ w, (Instr.field t x i).run P w = .ok z w := by
  obtain ⟨cs, rfl, k1⟩ := asAgg_ok hk
  simp only [den] at hv
  split at hv
  · rename_i xs hd
    cases hv
    obtain ⟨u, z, h1, h2, h3⟩ := part_ok hd k1 hag hs
    refine ⟨u, z, h1, h2, fun w => ?_⟩
    subst ho
    simp [Instr.field, run_underlying ht, hf, Go.asAgg, h3]
  · cases hv

/-! ### Slicing -/
noncomputable def optN (d : Nat) (o : Option AV) (K : Nat → Bool) : Bool := Option.casesOn o (K d) fun v => asNat v fun _ n => K n
theorem optN_ok {d : Nat} {o : Option AV} {K : Nat → Bool} (h : optN d o K = true) : ∃ n, K n = true ∧ ((o = none ∧ n = d) ∨ ∃ k, o = some (.int k (.ofNat n))) := by
  cases o with
  | none => exact ⟨d, h, .inl ⟨rfl, rfl⟩⟩
  | some v =>
    obtain ⟨k, n, rfl, h1⟩ := asNat_ok (v := v) h
    exact ⟨n, h1, .inr ⟨k, rfl⟩⟩
/-- What the operands of a slicing stand for. -/
def denO (E : Env) (ρ : Ren) (o : Option AV) (x : Option Value) : Prop := (o = none ∧ x = none) ∨ ∃ v y, o = some v ∧ x = some y ∧ den E ρ v = some y
theorem denO_nat {o : Option AV} {x : Option Value} {d n : Nat} (h : denO E ρ o x) (hn : (o = none ∧ n = d) ∨ ∃ k, o = some (.int k (.ofNat n))) : (x = none ∧ n = d) ∨ ∃ k, x = some (.int k (.ofNat n)) := by
  rcases h with ⟨rfl, rfl⟩ | ⟨v, y, rfl, rfl, hd⟩
  · rcases hn with ⟨_, rfl⟩ | ⟨k, hk⟩
    · exact .inl ⟨rfl, rfl⟩
    · cases hk
  · rcases hn with ⟨hh, _⟩ | ⟨k, hk⟩
    · cases hh
    · cases hk; cases hd; exact .inr ⟨_, rfl⟩
theorem run_bounds {isS : Bool} {len cap : Nat} {lo hi mx : Option Value} {l h m : Nat} (hl : (lo = none ∧ l = 0) ∨ ∃ k, lo = some (.int k (.ofNat l))) (hh : (hi = none ∧ h = len) ∨ ∃ k, hi = some (.int k (.ofNat h))) (hm : (mx = none ∧ m = cap) ∨ ∃ k, mx = some (.int k (.ofNat m)))
    (hmh : mx ≠ none → hi ≠ none) (h1 : l ≤ h) (h2 : h ≤ m) (h3 : m ≤ cap) (w : World) : (Instr.sliceBounds isS len cap lo hi mx).run P w = .ok (l, h, m) w := by
  have sb : ∀ (k : IntKind) (n y : Nat) (c : BoundsCode), n ≤ y → (Instr.sliceBound (.int k (n : Int)) y c).run P w = .ok n w := by
    intro k n y c hn
    simp [Instr.sliceBound, asIntOf, hn]
  rcases hm with ⟨rfl, rfl⟩ | ⟨km, rfl⟩
  · rcases hh with ⟨rfl, rfl⟩ | ⟨kh, rfl⟩
    · rcases hl with ⟨rfl, rfl⟩ | ⟨kl, rfl⟩
      · simp [Instr.sliceBounds]
      · simp [Instr.sliceBounds, sb _ _ _ _ h1]
    · rcases hl with ⟨rfl, rfl⟩ | ⟨kl, rfl⟩
      · simp [Instr.sliceBounds, sb _ _ _ _ h2]
      · simp [Instr.sliceBounds, sb _ _ _ _ h2, sb _ _ _ _ h1]
  · rcases hh with ⟨rfl, rfl⟩ | ⟨kh, rfl⟩
    · exact absurd rfl (hmh (by simp))
    · rcases hl with ⟨rfl, rfl⟩ | ⟨kl, rfl⟩
      · simp [Instr.sliceBounds, sb _ _ _ _ h2, sb _ _ _ _ h3]
      · simp [Instr.sliceBounds, sb _ _ _ _ h2, sb _ _ _ _ h3, sb _ _ _ _ h1]
noncomputable def isSomeA {α : Type _} (o : Option α) : Bool := Option.casesOn o false fun _ => true
/-- A slice of a slice. -/
noncomputable def slsX (sz : Nat) (v : AV) (lo hi mx : Option AV) (M : T) (K : AV → Bool) : Bool :=
  asSl v (optN 0 lo fun l => optN 0 hi fun h => optN 0 mx fun m => must (Nat.beq l 0) (must (Nat.beq h 0) (must (Nat.beq m 0) (must (Bool.or (Bool.not (isSomeA mx)) (isSomeA hi)) (K .nilS)))))
    fun i o n c => optN 0 lo fun l => optN n hi fun h => must (Nat.ble l h) (Option.casesOn mx
      (ACap.casesOn c
        (fun cc => must (Nat.ble h cc) (ifB (Nat.beq cc l) (fN (Nat.sub h l) fun hl => fN (Nat.sub cc l) fun cl => K (.sl i o hl (.ex cl))) (fN (Nat.sub h l) fun hl => fN (Nat.sub cc l) fun cl => fN (Nat.add o (Nat.mul l sz)) fun o' => K (.sl i o' hl (.ex cl)))))
        (fun k => must (Nat.ble h n) (blkOf M i fun g _ _ els => must g (must (Nat.ble (Nat.add k n) (lenL els)) (fN (Nat.sub h l) fun hl => fN (Nat.add k l) fun kl => fN (Nat.add o (Nat.mul l sz)) fun o' =>
          ifB (Nat.blt l n) (K (.sl i o' hl (.rest kl))) (must (K (.sl i o' hl (.rest kl))) (K (.sl i o hl (.ex 0)))))))))
      (fun _ => must (isSomeA hi) (optN 0 mx fun m => must (Nat.ble h m) (must (ACap.casesOn c (fun cc => Nat.ble m cc) (fun _ => false))
        (fN (Nat.sub h l) fun hl => fN (Nat.sub m l) fun ml => ifB (Nat.beq m l) (K (.sl i o hl (.ex ml))) (fN (Nat.add o (Nat.mul l sz)) fun o' => K (.sl i o' hl (.ex ml))))))))

theorem slsX_ok (h : Sim E ρ G F M nx w) {sz : Nat} {v : AV} {lo hi mx : Option AV} {K : AV → Bool} {x : Value} {xl xh xm : Option Value} {t e : TypeId} (ht : P.underlying t = some (.slice e)) (hs : szOf P e = some sz) (hv : den E ρ v = some x)
    (hlo : denO E ρ lo xl) (hhi : denO E ρ hi xh) (hmx : denO E ρ mx xm) (hk : slsX sz v lo hi mx M K = true) : ∃ u z, den E ρ u = some z ∧ K u = true ∧ (Instr.sliceAt t x xl xh xm).run P w = .ok z w := by
  have hrun : ∀ (ao : Option Addr) (n c l hh m : Nat), (Instr.sliceBounds true n c xl xh xm).run P w = .ok (l, hh, m) w → (Instr.sliceAt t (.slice ao n c) xl xh xm).run P w = .ok (.slice (if m = l then ao else ao.map (·.add (l * sz))) (hh - l) (m - l)) w := by
    intro ao n c l hh m hb
    simp [Instr.sliceAt, Instr.slice, run_underlying ht, hb, Go.Eng.run_sizeOf hs]
  have hmh : mx = none → xm = none := fun q => by
    rcases hmx with ⟨_, h2⟩ | ⟨_, _, h2, _⟩
    · exact h2
    · rw [q] at h2; cases h2
  rcases asSl_ok hk with ⟨rfl, k1⟩ | ⟨i, o, n, c, rfl, k1⟩
  · obtain ⟨l, k2, hl⟩ := optN_ok k1
    obtain ⟨hh, k3, hh2⟩ := optN_ok k2
    obtain ⟨m, k4, hm⟩ := optN_ok k3
    obtain ⟨e1, k5⟩ := must_ok k4
    obtain ⟨e2, k6⟩ := must_ok k5
    obtain ⟨e3, k7⟩ := must_ok k6
    obtain ⟨e4, k7⟩ := must_ok k7
    have e1 := Nat.eq_of_beq_eq_true e1
    have e2 := Nat.eq_of_beq_eq_true e2
    have e3 := Nat.eq_of_beq_eq_true e3
    subst e1; subst e2; subst e3
    cases hv
    refine ⟨.nilS, .slice none 0 0, rfl, k7, ?_⟩
    by_cases hx : xm ≠ none ∧ xh = none
    · exfalso
      rcases hmx with ⟨_, q⟩ | ⟨v', y, q1, q2, _⟩
      · exact hx.1 q
      · rcases hhi with ⟨p1, _⟩ | ⟨v'', y', p1, p2, _⟩
        · subst q1; subst p1; cases e4
        · rw [p2] at hx; cases hx.2
    · rw [hrun none 0 0 0 0 0 (run_bounds (denO_nat hlo hl) (denO_nat hhi hh2) (denO_nat hmx hm) (fun q q2 => hx ⟨q, q2⟩) (Nat.le_refl _) (Nat.le_refl _) (Nat.le_refl _) w)]
      simp
  · obtain ⟨l, k2, hl⟩ := optN_ok k1
    obtain ⟨hh, k3, hh2⟩ := optN_ok k2
    obtain ⟨hle, k4⟩ := must_ok k3
    rw [Nat.ble_eq] at hle
    simp only [den] at hv
    split at hv
    case h_2 => cases hv
    rename_i f hf
    cases hv
    cases mx with
    | none =>
      have hxm := hmh rfl
      subst hxm
      cases c with
      | ex cc =>
        obtain ⟨hc, k5⟩ := must_ok k4
        rw [Nat.ble_eq] at hc
        have hb := run_bounds (P := P) (isS := true) (len := n) (denO_nat hlo hl) (denO_nat hhi hh2) (.inl ⟨rfl, rfl⟩) (fun q => absurd rfl q) hle hc (Nat.le_refl cc) w
        have hr := hrun (some ⟨f.b, o, none⟩) n cc l hh cc hb
        rcases ifB_ok k5 with ⟨q, k6⟩ | ⟨q, k6⟩
        · have q := Nat.eq_of_beq_eq_true q
          subst q
          rw [fN_eq, fN_eq] at k6
          exact ⟨_, .slice (some ⟨f.b, o, none⟩) (hh - cc) (cc - cc), by simp only [den, hf, capOf]; rfl, k6, by simpa [capOf] using hr⟩
        · rw [nbeq, decide_eq_false_iff_not] at q
          rw [fN_eq, fN_eq, fN_eq] at k6
          exact ⟨_, .slice (some ⟨f.b, o + l * sz, none⟩) (hh - l) (cc - l), by simp only [den, hf, capOf]; rfl, k6, by simpa [capOf, q, add_mk] using hr⟩
      | rest k =>
        obtain ⟨hn, k5⟩ := must_ok k4
        rw [Nat.ble_eq] at hn
        obtain ⟨g, Ty, sz', els, hi', k6⟩ := blkOf_ok k5
        obtain ⟨hg, k7⟩ := must_ok k6
        subst hg
        obtain ⟨hkn, k8⟩ := must_ok k7
        rw [Nat.ble_eq, lenL_eq] at hkn
        have hkn : k + n ≤ els.length := hkn
        obtain ⟨f2, arr, xs, q1, _, _, _, _, _, _, _, q9⟩ := h.cellsAt hi'
        rw [hf] at q1; cases q1
        obtain ⟨_, q10, _⟩ := q9 rfl
        have hcap : n ≤ f.cap - k := by omega
        have hb := run_bounds (P := P) (isS := true) (len := n) (cap := f.cap - k) (denO_nat hlo hl) (denO_nat hhi hh2) (.inl ⟨rfl, rfl⟩) (fun q => absurd rfl q) hle (by omega) (Nat.le_refl _) w
        have hr := hrun (some ⟨f.b, o, none⟩) n (f.cap - k) l hh (f.cap - k) hb
        rw [fN_eq, fN_eq, fN_eq] at k8
        rcases ifB_ok k8 with ⟨q, k9⟩ | ⟨q, k9⟩
        · rw [Nat.blt_eq] at q
          exact ⟨_, .slice (some ⟨f.b, o + l * sz, none⟩) (hh - l) (f.cap - (k + l)), by simp only [den, hf, capOf]; rfl, k9, by
            have : ¬ f.cap - k = l := by omega
            simpa [capOf, this, add_mk, Nat.sub_sub] using hr⟩
        · obtain ⟨k10, k11⟩ := must_ok k9
          by_cases q2 : f.cap - k = l
          · exact ⟨_, .slice (some ⟨f.b, o, none⟩) (hh - l) 0, by simp only [den, hf, capOf]; rfl, k11, by simpa [capOf, q2] using hr⟩
          · exact ⟨_, .slice (some ⟨f.b, o + l * sz, none⟩) (hh - l) (f.cap - (k + l)), by simp only [den, hf, capOf]; rfl, k10, by
              simpa [capOf, q2, add_mk, Nat.sub_sub] using hr⟩
    | some mv =>
      obtain ⟨hih, k5⟩ := must_ok (b := isSomeA hi) k4
      obtain ⟨m, k6, hm⟩ := optN_ok k5
      obtain ⟨hhm, k7⟩ := must_ok k6
      obtain ⟨hmc, k8⟩ := must_ok k7
      rw [Nat.ble_eq] at hhm
      cases c with
      | rest k => cases hmc
      | ex cc =>
      have hmc : m ≤ cc := by
        have : Nat.ble m cc = true := hmc
        rwa [Nat.ble_eq] at this
      have hxh : xh ≠ none := by
        rcases hhi with ⟨q, _⟩ | ⟨_, _, _, q, _⟩
        · rw [q] at hih; cases hih
        · rw [q]; simp
      have hmd : (xm = none ∧ m = cc) ∨ ∃ k, xm = some (.int k (.ofNat m)) := by
        rcases hmx with ⟨q, _⟩ | ⟨v', y, q1, q2, q3⟩
        · cases q
        · rcases hm with ⟨q, _⟩ | ⟨k, q⟩
          · cases q
          · cases q1; cases q; cases q3
            exact .inr ⟨_, q2⟩
      have hb := run_bounds (P := P) (isS := true) (len := n) (cap := cc) (denO_nat hlo hl) (denO_nat hhi hh2) hmd (fun _ => hxh) hle hhm hmc w
      have hr := hrun (some ⟨f.b, o, none⟩) n cc l hh m hb
      rw [fN_eq, fN_eq] at k8
      rcases ifB_ok k8 with ⟨q, k9⟩ | ⟨q, k9⟩
      · have q := Nat.eq_of_beq_eq_true q
        subst q
        exact ⟨_, .slice (some ⟨f.b, o, none⟩) (hh - m) (m - m), by simp only [den, hf, capOf]; rfl, k9, by simpa [capOf] using hr⟩
      · rw [nbeq, decide_eq_false_iff_not] at q
        rw [fN_eq] at k9
        exact ⟨_, .slice (some ⟨f.b, o + l * sz, none⟩) (hh - l) (m - l), by simp only [den, hf, capOf]; rfl, k9, by simpa [capOf, q, add_mk] using hr⟩
end
end Go.Sy
