/- The executor for symbolic runs: slicing, nil, rows that become ghost memory. No condition: definitions and plain lemmas. -/
import Derived.Test.YtkahniffcehicaaZF
namespace Go.Sy
open Go Go.RowKit Go.Eng

section
variable {P : Program} {E : Env} {ρ : Ren} {G : GS} {F : List Chunk} {M : T} {nx : Nat} {w : World}

/-! ### Slicing -/
def hslM (ao : Option Addr) (sz a b m : Nat) : Value := .slice (if m = a then ao else ao.map (·.add (a * sz))) (b - a) (m - a)
def hsl (h : Value) (sz a b : Nat) : Value := match h with | .slice ao _ cap => hslM ao sz a b cap | v => v
def hsl3 (h : Value) (sz a b m : Nat) : Value := match h with | .slice ao _ _ => hslM ao sz a b m | v => v
theorem ok_sub {M : Mem} {ao : Option Addr} {n cap sz a b m : Nat} {α : Type} {l : List α} {enc : α → List PL} (h : OkP M (.imm (.slice ao n cap) sz α l enc)) (h1 : a ≤ b) (h2 : b ≤ l.length) (h3 : b ≤ m) (h4 : m ≤ cap) :
    OkP M (.imm (hslM ao sz a b m) sz α ((l.drop a).take (b - a)) enc) := by
  obtain ⟨ao', cap', hh, c1, c2, c3, ha, hl, ho, hr⟩ := okImm h
  injection hh with e1 e2 e3
  subst e1; subst e2; subst e3
  have hlen : ((l.drop a).take (b - a)).length = b - a := by rw [List.length_take, List.length_drop]; omega
  refine .imm (if m = a then ao else ao.map (·.add (a * sz))) (m - a) (by rw [hlen]; rfl) (by rw [hlen]; omega) (by omega) c3 (fun q => ?_) (fun x hx => hl x (List.mem_of_mem_drop (List.mem_of_mem_take hx))) (fun x hx => ho x (List.mem_of_mem_drop (List.mem_of_mem_take hx))) (fun i x hx => ?_)
  · rw [hlen] at q
    rw [if_neg (by omega), ha (by omega)]
    simp [add_mk, blk, ofs]
  · have hi : i < b - a := by
      have := (List.getElem?_eq_some_iff.1 hx).1
      omega
    rw [List.getElem?_take_of_lt hi, List.getElem?_drop] at hx
    have := hr (a + i) x hx
    rw [if_neg (by omega), ha (by omega)]
    rw [ha (by omega)] at this
    simp only [Option.map_some, add_mk, blk, ofs] at this ⊢
    rw [Nat.add_mul, ← Nat.add_assoc] at this
    exact this
noncomputable def optZ (d : Int) (o : Option AV) (K : Int → Bool) : Bool := Option.casesOn o (K d) fun v => asZ v fun _ z => K z
theorem optZ_ok {d : Int} {o : Option AV} {xo : Option Value} {K : Int → Bool} (hd : denO E ρ o xo) (h : optZ d o K = true) : ∃ z, K z = true ∧ ((o = none ∧ xo = none ∧ z = d) ∨ ∃ k, xo = some (.int (kOf k) z)) := by
  rcases hd with ⟨rfl, rfl⟩ | ⟨v, y, rfl, rfl, hv⟩
  · exact ⟨d, h, .inl ⟨rfl, rfl, rfl⟩⟩
  · obtain ⟨k, z, rfl, g⟩ := asZ_ok (K := fun _ z => K z) hv h
    exact ⟨z, g, .inr ⟨k, rfl⟩⟩
noncomputable def slsS (sz : Nat) (v : AV) (lo hi mx : Option AV) (M : T) (K : AV → Bool) : Bool := asSy v fun s => SY.casesOn s (fun _ _ => false) (fun _ => false) (fun _ => false)
  (fun h sz' α l enc => must (Nat.beq sz sz') (optZ 0 lo fun a => optZ (l.length : Int) hi fun b => Option.casesOn mx
    (must (prB (0 ≤ a ∧ a ≤ b ∧ b ≤ (l.length : Int))) (K (.sy (.imm (hsl h sz a.toNat b.toNat) sz α ((l.drop a.toNat).take (b.toNat - a.toNat)) enc))))
    (fun _ => must (isSomeA hi) (optZ 0 mx fun m => must (prB (0 ≤ a ∧ a ≤ b ∧ b ≤ m ∧ m ≤ (l.length : Int))) (K (.sy (.imm (hsl3 h sz a.toNat b.toNat m.toNat) sz α ((l.drop a.toNat).take (b.toNat - a.toNat)) enc)))))))
  (fun _ _ _ => false)
  (fun i n => prowOf M i fun _ sz' _ l _ => must (Nat.beq sz sz') (optZ 0 lo fun a => optZ (n : Int) hi fun b => Option.casesOn mx
    (must (prB (n = l.length ∧ 0 ≤ a ∧ a ≤ b ∧ b ≤ (n : Int))) (K (.sy (.psub i sz a.toNat (b.toNat - a.toNat)))))
    (fun _ => must (isSomeA hi) (optZ 0 mx fun m => must (prB (n = l.length ∧ a = 0 ∧ b = (n : Int) ∧ m = (n : Int))) (K (.sy (.pfix i n n)))))))
  (fun _ _ _ _ => false) (fun _ _ _ _ => false) (fun _ _ _ => false)
noncomputable def slsY (sz : Nat) (v : AV) (lo hi mx : Option AV) (M : T) (K : AV → Bool) : Bool := ifB (isSy v) (slsS sz v lo hi mx M K) (slsX sz v lo hi mx M K)
theorem bnd_of {o : Option AV} {xo : Option Value} {z d : Int} {n dn : Nat} (hz : z = (n : Int)) (hd : d = (dn : Int)) (h : (o = none ∧ xo = none ∧ z = d) ∨ ∃ k, xo = some (.int (kOf k) z)) : (xo = none ∧ n = dn) ∨ ∃ k, xo = some (.int k (.ofNat n)) := by
  rcases h with ⟨_, h1, h2⟩ | ⟨k, h1⟩
  · exact .inl ⟨h1, by omega⟩
  · exact .inr ⟨kOf k, by rw [h1, hz]; rfl⟩
theorem slsY_ok (h : Sim E ρ G F M nx w) {sz : Nat} {v : AV} {lo hi mx : Option AV} {K : AV → Bool} {x : Value} {xl xh xm : Option Value} {t e : TypeId} (ht : P.underlying t = some (.slice e)) (hs : szOf P e = some sz) (hv : den E ρ v = some x)
    (hlo : denO E ρ lo xl) (hhi : denO E ρ hi xh) (hmx : denO E ρ mx xm) (hk : slsY sz v lo hi mx M K = true) : ∃ u z, den E ρ u = some z ∧ K u = true ∧ (Instr.sliceAt t x xl xh xm).run P w = .ok z w := by
  rcases ifB_ok hk with ⟨-, g⟩ | ⟨-, g⟩
  case inr => exact slsX_ok h ht hs hv hlo hhi hmx g
  have hrun : ∀ (ao : Option Addr) (n c l hh m : Nat), (Instr.sliceBounds true n c xl xh xm).run P w = .ok (l, hh, m) w → (Instr.sliceAt t (.slice ao n c) xl xh xm).run P w = .ok (.slice (if m = l then ao else ao.map (·.add (l * sz))) (hh - l) (m - l)) w := by
    intro ao n c l hh m hb
    simp [Instr.sliceAt, Instr.slice, run_underlying ht, hb, Go.Eng.run_sizeOf hs]
  have hno : mx = none → xm = none := fun q => by
    rcases hmx with ⟨_, h2⟩ | ⟨_, _, h2, _⟩
    · exact h2
    · rw [q] at h2; cases h2
  have hsome : isSomeA hi = true → xh ≠ none := fun q => by
    rcases hhi with ⟨p, _⟩ | ⟨_, _, _, p, _⟩
    · rw [p] at q; cases q
    · rw [p]; simp
  replace g := asSy_ok g
  obtain ⟨s, rfl, g⟩ := g
  cases s <;> first | (cases g; done) | skip
  case imm hh sz' α l enc =>
    obtain ⟨g1, g2⟩ := must_ok g
    have g1 := Nat.eq_of_beq_eq_true g1
    subst g1
    obtain ⟨a, g3, ha⟩ := optZ_ok hlo g2
    obtain ⟨b, g4, hb⟩ := optZ_ok hhi g3
    obtain ⟨h1, rfl⟩ := denP_some (show denP E (.imm hh sz α l enc) = some x from hv)
    obtain ⟨ao, cap, rfl, c1, c2, _⟩ := okImm h1
    cases mx with
    | none =>
      have hxm := hno rfl
      subst hxm
      obtain ⟨⟨b1, b2, b3⟩, g5⟩ := mustP_ok g4
      obtain ⟨a, rfl⟩ := Int.eq_ofNat_of_zero_le b1
      obtain ⟨b, rfl⟩ := Int.eq_ofNat_of_zero_le (show 0 ≤ b by omega)
      have hbd := run_bounds (P := P) (isS := true) (len := l.length) (cap := cap) (bnd_of rfl (show (0 : Int) = ((0 : Nat) : Int) from rfl) ha) (bnd_of rfl rfl hb) (.inl ⟨rfl, rfl⟩) (fun q => absurd rfl q) (by omega) (by omega) (Nat.le_refl cap) w
      exact ⟨.sy (.imm (hslM ao sz a b cap) sz α ((l.drop a).take (b - a)) enc), hslM ao sz a b cap, denP_mk (ok_sub h1 (by omega) (by omega) (by omega) (Nat.le_refl cap)), g5, hrun ao l.length cap a b cap hbd⟩
    | some mv =>
      obtain ⟨q1, g5⟩ := must_ok (b := isSomeA hi) g4
      obtain ⟨m, g6, hm⟩ := optZ_ok hmx g5
      obtain ⟨⟨b1, b2, b3, b4⟩, g7⟩ := mustP_ok g6
      obtain ⟨a, rfl⟩ := Int.eq_ofNat_of_zero_le b1
      obtain ⟨b, rfl⟩ := Int.eq_ofNat_of_zero_le (show 0 ≤ b by omega)
      obtain ⟨m, rfl⟩ := Int.eq_ofNat_of_zero_le (show 0 ≤ m by omega)
      have hm' : ∃ k, xm = some (.int k (.ofNat m)) := by
        rcases hm with ⟨q, _⟩ | ⟨k, q⟩
        · cases q
        · exact ⟨kOf k, q⟩
      have hbd := run_bounds (P := P) (isS := true) (len := l.length) (cap := cap) (bnd_of rfl (show (0 : Int) = ((0 : Nat) : Int) from rfl) ha) (bnd_of rfl rfl hb) (.inr hm') (fun _ => hsome q1) (by omega) (by omega) (by omega) w
      exact ⟨.sy (.imm (hslM ao sz a b m) sz α ((l.drop a).take (b - a)) enc), hslM ao sz a b m, denP_mk (ok_sub h1 (by omega) (by omega) (by omega) (by omega)), g7, hrun ao l.length cap a b m hbd⟩
  case prow i n =>
    obtain ⟨Ty, sz', α, l, enc, hi', g1⟩ := prowOf_ok g
    obtain ⟨g2, g3⟩ := must_ok g1
    have g2 := Nat.eq_of_beq_eq_true g2
    subst g2
    obtain ⟨a, g3, ha⟩ := optZ_ok hlo g3
    obtain ⟨b, g4, hb⟩ := optZ_ok hhi g3
    simp only [den, denS] at hv
    obtain ⟨f, q1, hsz, hrow⟩ := h.prow hi'
    rw [q1] at hv
    cases mx with
    | none =>
      have hxm := hno rfl
      subst hxm
      obtain ⟨⟨b0, b1, b2, b3⟩, g5⟩ := mustP_ok g4
      obtain ⟨a, rfl⟩ := Int.eq_ofNat_of_zero_le b1
      obtain ⟨b, rfl⟩ := Int.eq_ofNat_of_zero_le (show 0 ≤ b by omega)
      rcases hrow with ⟨q2, q3⟩ | ⟨c, arr, q2, q3, r⟩
      · rcases hdrP_form hv with ⟨_, rfl, rfl⟩ | ⟨c, q4, _⟩
        · have ea : a = 0 := by omega
          have eb : b = 0 := by omega
          subst ea; subst eb
          have hbd := run_bounds (P := P) (isS := true) (len := 0) (cap := 0) (bnd_of rfl (show (0 : Int) = ((0 : Nat) : Int) from rfl) ha) (bnd_of rfl rfl hb) (.inl ⟨rfl, rfl⟩) (fun q => absurd rfl q) (by omega) (by omega) (Nat.le_refl 0) w
          refine ⟨_, _, ?_, g5, hrun none 0 0 0 0 0 hbd⟩
          simp [den, denS, q1, hdrS, q2]
        · omega
      · rcases hdrP_form hv with ⟨q4, _⟩ | ⟨c', q4, rfl⟩
        · omega
        · have : c' = c := by omega
          subst this
          have hle := r.le
          have hbd := run_bounds (P := P) (isS := true) (len := n) (cap := c') (bnd_of rfl (show (0 : Int) = ((0 : Nat) : Int) from rfl) ha) (bnd_of rfl rfl hb) (.inl ⟨rfl, rfl⟩) (fun q => absurd rfl q) (by omega) (by omega) (Nat.le_refl c') w
          refine ⟨_, _, ?_, g5, hrun _ n c' a b c' hbd⟩
          simp only [den, denS, q1, hdrS, q2]
          rw [if_pos (by omega)]
          by_cases q : c' = a
          · simp [q]
          · simp [q, add_mk]
    | some mv =>
      obtain ⟨p1, g5⟩ := must_ok (b := isSomeA hi) g4
      obtain ⟨m, g6, hm⟩ := optZ_ok hmx g5
      obtain ⟨⟨b0, b1, b2, b3⟩, g7⟩ := mustP_ok g6
      subst b1; subst b2; subst b3
      have hm' : ∃ k, xm = some (.int k (.ofNat n)) := by
        rcases hm with ⟨q, _⟩ | ⟨k, q⟩
        · cases q
        · exact ⟨kOf k, q⟩
      rcases hrow with ⟨q2, q3⟩ | ⟨c, arr, q2, q3, r⟩
      · rcases hdrP_form hv with ⟨_, rfl, rfl⟩ | ⟨c, q4, _⟩
        · have hbd := run_bounds (P := P) (isS := true) (len := 0) (cap := 0) (bnd_of (n := 0) rfl (show (0 : Int) = ((0 : Nat) : Int) from rfl) ha) (bnd_of rfl rfl hb) (.inr hm') (fun _ => hsome p1) (by omega) (by omega) (Nat.le_refl 0) w
          refine ⟨_, _, ?_, g7, hrun none 0 0 0 0 0 hbd⟩
          simp [den, denS, q1, hdrF, q2]
        · omega
      · rcases hdrP_form hv with ⟨q4, _⟩ | ⟨c', q4, rfl⟩
        · omega
        · have : c' = c := by omega
          subst this
          have hle := r.le
          have hbd := run_bounds (P := P) (isS := true) (len := n) (cap := c') (bnd_of (n := 0) rfl (show (0 : Int) = ((0 : Nat) : Int) from rfl) ha) (bnd_of rfl rfl hb) (.inr hm') (fun _ => hsome p1) (by omega) (by omega) (by omega) w
          refine ⟨_, _, ?_, g7, hrun _ n c' 0 n n hbd⟩
          simp only [den, denS, q1, hdrF, q2]
          by_cases q : n = 0
          · simp [q]
          · simp [q, add_mk]

/-! ### Is it nil? -/
def nilH (h : Value) : Prop := ∃ n c, h = .slice none n c
noncomputable def isnS (ne : Bool) (kd : Nat) (v : AV) (K : AV → Bool) : Bool := must (Nat.beq kd 2) (asSy v fun s => SY.casesOn s (fun _ _ => false) (fun _ => false) (fun _ => false)
  (fun h _ _ _ _ => Bool.rec (K (.sy (.bool (nilH h)))) (K (.sy (.bool (¬ nilH h)))) ne) (fun _ _ _ => false) (fun _ n => allB fun p : Prop => ifB (prB (p → n = 0)) (Bool.rec (K (.sy (.bool p))) (K (.sy (.bool (¬ p)))) ne) true) (fun _ _ _ _ => false) (fun _ _ _ _ => false) (fun _ _ _ => false))
noncomputable def isnY (ne : Bool) (kd : Nat) (v : AV) (K : AV → Bool) : Bool := ifB (isSy v) (isnS ne kd v K) (isnX ne kd v K)
theorem prB_not (p : Prop) : prB (¬ p) = !prB p := by
  by_cases hp : p
  · rw [prB_true.2 hp, prB_false.2 (fun q => q hp)]; rfl
  · rw [prB_false.2 hp, prB_true.2 hp]; rfl
theorem isnY_ok {ne : Bool} {kd : Nat} {v : AV} {K : AV → Bool} {x : Value} {t : TypeId} {y : Value} (hn : nilV P t kd = some y) (h1 : den E ρ v = some x) (h : isnY ne kd v K = true) (p : Operand) (c : Value) :
    ∃ u z, den E ρ u = some z ∧ K u = true ∧ ∀ w, ((do eqGuard (bif ne then .neq else .eql) t p (.const c) x y; binOp (bif ne then .neq else .eql) t x y) : Sem Value).run P w = .ok z w := by
  rcases ifB_ok h with ⟨-, g⟩ | ⟨-, g⟩
  case inr => exact isnX_ok hn h1 g p c
  obtain ⟨g1, g2⟩ := must_ok g
  have g1 := Nat.eq_of_beq_eq_true g1
  subst g1
  have hty : ∃ e, P.underlying t = some (.slice e) ∧ y = .slice none 0 0 := by
    unfold nilV at hn
    split at hn <;> first | (cases hn; done) | skip
    all_goals (rename_i q; first | (cases hn; exact ⟨_, by assumption, rfl⟩) | skip)
    all_goals simp_all
  obtain ⟨e, hu, rfl⟩ := hty
  have hr : ∀ (ao : Option Addr) (n cc : Nat) (w : World), ((do eqGuard (bif ne then .neq else .eql) t p (.const c) (.slice ao n cc) (.slice none 0 0); binOp (bif ne then .neq else .eql) t (.slice ao n cc) (.slice none 0 0)) : Sem Value).run P w = .ok (.bool (bif ne then !ao.isNone else ao.isNone)) w := by
    intro ao n cc w
    have ho : ∀ x y : Value, Op.equal t x y = Op.equalIn (9999 + 1) t x y := fun _ _ => rfl
    cases ne <;> simp [eqGuard, binOp, ho, eqn_sl hu]
  replace g2 := asSy_ok g2
  clear g h
  obtain ⟨s, rfl, g⟩ := g2
  cases s <;> first | (cases g; done) | skip
  case imm hh sz α l enc =>
    obtain ⟨h1, rfl⟩ := denP_some (show denP E (.imm hh sz α l enc) = some x from h1)
    obtain ⟨ao, cap, rfl, _⟩ := okImm h1
    have hnil : prB (nilH (.slice ao l.length cap)) = ao.isNone := by
      cases ao with
      | none => exact prB_true.2 ⟨_, _, rfl⟩
      | some a => exact prB_false.2 (fun ⟨_, _, q⟩ => by injection q with q; cases q)
    cases ne with
    | false => exact ⟨.sy (.bool (nilH (.slice ao l.length cap))), _, rfl, g, fun w => by rw [hnil]; exact hr ao _ _ w⟩
    | true => exact ⟨.sy (.bool (¬ nilH (.slice ao l.length cap))), _, rfl, g, fun w => by rw [prB_not, hnil]; exact hr ao _ _ w⟩
  case prow i n =>
    simp only [den, denS] at h1
    split at h1
    case h_2 => cases h1
    have key : ∃ ao n' c', x = .slice ao n' c' ∧ (ao.isNone = true → n = 0) := by
      rcases hdrP_form h1 with ⟨_, rfl, rfl⟩ | ⟨c, _, rfl⟩
      · exact ⟨_, _, _, rfl, fun _ => rfl⟩
      · exact ⟨_, _, _, rfl, fun q => by cases q⟩
    obtain ⟨ao, n', c', rfl, hn0⟩ := key
    rcases ifP_ok (allB_ok g (ao.isNone = true)) with ⟨_, g⟩ | ⟨q, _⟩
    · cases ne with
      | false => exact ⟨.sy (.bool (ao.isNone = true)), _, rfl, g, fun w => by rw [prB_bool]; exact hr ao _ _ w⟩
      | true => exact ⟨.sy (.bool (¬ ao.isNone = true)), _, rfl, g, fun w => by rw [prB_not, prB_bool]; exact hr ao _ _ w⟩
    · exact absurd hn0 q

/-! ### A row of the call's own becomes ghost memory -/
theorem Sim.freeze (h : Sim E ρ G F M nx w) {i : Nat} {o : AObj} {e : REnt} {M' : T} (hi : M.get i = some o) (he : ρ i = some e) (hB : hasB e o = true) (h1 : M'.get i = none) (h2 : ∀ m, m ≠ i → M'.get m = M.get m) :
    ∃ ob E', EEq ρ E E' ∧ E'.at_ = E.at_ ∧ E'.M e.b = some ob ∧ ORel E ρ e o ob ∧ Sim E' ρ G F M' nx w := by
  obtain ⟨c, hh, ho, hinj⟩ := h.ex
  obtain ⟨f, a1, ⟨_, ob, a2, a3⟩ | ⟨q, _⟩⟩ := ho i o hi
  case inr => rw [he] at a1; cases a1; rw [hB] at q; cases q
  rw [he] at a1; cases a1
  obtain ⟨A, B, rfl⟩ := List.append_of_mem a2
  have hh' : Holds { G with M := E.M } w ([(e.b, ob)] :: (A ++ B) :: F) := hh.perm (by
    simp only [List.flatten_cons, List.cons_append, List.nil_append, List.append_assoc]
    exact List.perm_middle.symm)
  obtain ⟨t1, t2, t3⟩ := hh'.toG
  refine ⟨ob, ⟨E.at_, (GS.add { G with M := E.M } [(e.b, ob)]).M⟩, ⟨fun _ _ _ => rfl, t1.mem⟩, rfl, t3 (e.b, ob) (by simp), a3, ⟨A ++ B, t2, fun k o2 hk => ?_, fun k l e' f' o1 o2 hk hl he' hf' hb1 hb2 hb => ?_⟩, MLe.trans h.mem t1.mem, h.fresh⟩
  · have hki : k ≠ i := fun q => by subst q; rw [h1] at hk; cases hk
    rw [h2 k hki] at hk
    obtain ⟨f, b1, ⟨b0, ob2, b2, b3⟩ | b4⟩ := ho k o2 hk
    · refine ⟨f, b1, .inl ⟨b0, ob2, ?_, ORel.env (E := E) (E' := ⟨E.at_, (GS.add { G with M := E.M } [(e.b, ob)]).M⟩) ⟨fun _ _ _ => rfl, t1.mem⟩ b3⟩⟩
      simp only [List.mem_append, List.mem_cons] at b2 ⊢
      rcases b2 with b2 | b2 | b2
      · exact .inl b2
      · exfalso
        injection b2 with b2 _
        exact hki (hinj k i f e _ _ hk hi b1 he b0 hB b2)
      · exact .inr b2
    · exact ⟨f, b1, .inr b4⟩
  · have hki : k ≠ i := fun q => by subst q; rw [h1] at hk; cases hk
    have hli : l ≠ i := fun q => by subst q; rw [h1] at hl; cases hl
    rw [h2 k hki] at hk
    rw [h2 l hli] at hl
    exact hinj k l e' f' _ _ hk hl he' hf' hb1 hb2 hb
theorem ok_row {E' : Env} {e : REnt} {Ty sz c m : Nat} {α : Type} {l : List α} {enc : α → List PL} {arr : Array Value} (hm : MLe E.M E'.M) (hM : E'.M e.b = some (.cells arr Ty (0, 0))) (hsz : 0 < sz) (hl : ∀ x ∈ l, (enc x).length = sz) (r : RowAt E w e Ty sz (l.flatMap enc) l.length c arr) (h1 : l.length ≤ m) (h2 : m ≤ c) :
    OkP E'.M (.imm (.slice (some ⟨e.b, 0, none⟩) l.length m) sz α l enc) := by
  refine .imm (some ⟨e.b, 0, none⟩) m rfl h1 (Nat.le_trans h2 r.max) hsz (fun _ => rfl) hl (fun x hx p hp => (r.ok p (List.mem_flatMap.2 ⟨x, hx, hp⟩)).mono hm) (fun i x hx j v hv => ?_)
  rw [List.getElem?_map] at hv
  rcases hp : (enc x)[j]? with _ | p
  · rw [hp] at hv; cases hv
  rw [hp] at hv
  have hf := flatMap_at hl hx hp
  have : ((l.flatMap enc).map valP)[i * sz + j]? = some v := by rw [List.getElem?_map, hf]; exact hv
  rw [← r.take] at this
  have hlt : i * sz + j < l.length * sz := by
    have := (List.getElem?_eq_some_iff.1 this).1
    rw [List.length_take] at this; omega
  rw [List.getElem?_take_of_lt hlt] at this
  simp only [blk, ofs, Nat.zero_add, mcell, hM]
  simpa using this
noncomputable def frzP (i n : Nat) (M : T) (K : AV → T → Bool) : Bool := prowOf M i fun _ sz α l enc => must (prB (n = l.length)) (T.set fuelT M i none fun M' => allB fun h : Value => K (.sy (.imm h sz α l enc)) M')
/-- One cell's value without numbers of the call's own. -/
noncomputable def frz1 (v : AV) (M : T) (K : AV → T → Bool) : Bool := ifB (isSy v) (asSy v fun s => SY.casesOn s (fun _ _ => K v M) (fun _ => K v M) (fun _ => K v M) (fun _ _ _ _ _ => K v M) (fun _ _ _ => false) (fun i n => frzP i n M K) (fun _ _ _ _ => false) (fun _ _ _ _ => false) (fun i n m => must (prB (n = m)) (frzP i n M K)))
  (toP v fun _ => K v M)
theorem toP_pure {v : AV} {x : Value} {K : PL → Bool} (hd : den E ρ v = some x) (h : toP v K = true) : den E (fun _ => none) v = some x := by
  cases v <;> first | (cases h; done) | exact hd | skip
  case sy s =>
    cases s <;> first | (cases h; done) | exact hd
theorem frzP_ok (h : Sim E ρ G F M nx w) {i n m : Nat} {x : Value} {K : AV → T → Bool} (hd : denS E ρ (.prow i n) = some x ∨ (n = m ∧ denS E ρ (.pfix i n m) = some x)) (hkk : frzP i n M K = true) :
    ∃ E' M' v, EEq ρ E E' ∧ E'.at_ = E.at_ ∧ Sim E' ρ G F M' nx w ∧ den E' (fun _ => none) v = some x ∧ K v M' = true := by
  obtain ⟨Ty, sz, α, l, enc, hi, g1⟩ := prowOf_ok hkk
  obtain ⟨hn, g2⟩ := mustP_ok g1
  obtain ⟨M', g3, s1, s2⟩ := T.set_ok _ _ _ _ _ g2
  obtain ⟨e, q1, hsz, hrow⟩ := h.prow hi
  have hform : (e.cap = 0 ∧ n = 0 ∧ x = .slice none 0 0) ∨ ∃ c mm, e.cap = c + 1 ∧ x = .slice (some ⟨e.b, 0, none⟩) n mm ∧ (mm = c ∨ mm = n) := by
    rcases hd with hd | ⟨rfl, hd⟩
    · simp only [denS, q1] at hd
      rcases hdrP_form hd with q | ⟨c, q2, q3⟩
      · exact .inl q
      · exact .inr ⟨c, c, q2, q3, .inl rfl⟩
    · simp only [denS, q1] at hd
      rcases hdrF_form hd with ⟨q, q2, _, q3⟩ | ⟨c, q2, q3⟩
      · exact .inl ⟨q, q2, q3⟩
      · exact .inr ⟨c, n, q2, q3, .inr rfl⟩
  rcases hrow with ⟨q2, q3⟩ | ⟨c, arr, q2, q3, r⟩
  · rcases hform with ⟨_, _, rfl⟩ | ⟨c, _, q4, _⟩
    · subst q3
      refine ⟨E, M', _, ⟨fun _ _ _ => rfl, MLe.refl _⟩, rfl, ?_, ?_, allB_ok g3 (.slice none 0 0)⟩
      · obtain ⟨cc, hh, ho, hinj⟩ := h.ex
        refine ⟨⟨cc, hh, fun k o2 hk => ?_, fun k l e' f' o1 o2 hk hl => ?_⟩, h.mem, h.fresh⟩
        · have hki : k ≠ i := fun q => by subst q; rw [s1] at hk; cases hk
          rw [s2 k hki] at hk
          exact ho k o2 hk
        · have hki : k ≠ i := fun q => by subst q; rw [s1] at hk; cases hk
          have hli : l ≠ i := fun q => by subst q; rw [s1] at hl; cases hl
          rw [s2 k hki] at hk
          rw [s2 l hli] at hl
          exact hinj k l e' f' o1 o2 hk hl
      · show denP E _ = _
        exact denP_mk (.imm none 0 rfl (by simp) (by decide) hsz (fun q => by simp at q) (fun x hx => by simp at hx) (fun x hx => by simp at hx) (fun i x hx => by simp at hx))
    · omega
  · rcases hform with ⟨q4, _⟩ | ⟨c', mm, q4, rfl, q5⟩
    · omega
    · have : c' = c := by omega
      subst this
      have hB : hasB e (.prow Ty sz α l enc) = true := hasB_prow q2
      obtain ⟨ob, E', f1, f2, f3, f4, f5⟩ := h.freeze hi q1 hB s1 s2
      have hob : ob = .cells arr Ty (0, 0) := by
        obtain ⟨G', _, hh, hM⟩ := f5.holds
        have := hh.mem e.b ob (by rw [hM]; exact f3)
        rw [r.heap] at this
        exact (Option.some.inj this).symm
      subst hob
      subst hn
      refine ⟨E', M', _, f1, f2, f5, ?_, allB_ok g3 (.slice (some ⟨e.b, 0, none⟩) l.length mm)⟩
      show denP E' _ = _
      have hle := r.le
      exact denP_mk (ok_row f1.mem f3 hsz q3 r (by rcases q5 with rfl | rfl <;> omega) (by rcases q5 with rfl | rfl <;> omega))
theorem frz1_ok (h : Sim E ρ G F M nx w) {v : AV} {x : Value} {K : AV → T → Bool} (hd : den E ρ v = some x) (hk : frz1 v M K = true) :
    ∃ E' M' u, EEq ρ E E' ∧ E'.at_ = E.at_ ∧ Sim E' ρ G F M' nx w ∧ den E' (fun _ => none) u = some x ∧ K u M' = true := by
  rcases ifB_ok hk with ⟨-, g⟩ | ⟨-, g⟩
  · replace g := asSy_ok g
    obtain ⟨s, rfl, g⟩ := g
    cases s <;> first | (cases g; done) | skip
    case int => exact ⟨E, M, .sy (.int _ _), ⟨fun _ _ _ => rfl, MLe.refl _⟩, rfl, h, hd, g⟩
    case bool => exact ⟨E, M, .sy (.bool _), ⟨fun _ _ _ => rfl, MLe.refl _⟩, rfl, h, hd, g⟩
    case str => exact ⟨E, M, .sy (.str _), ⟨fun _ _ _ => rfl, MLe.refl _⟩, rfl, h, hd, g⟩
    case imm => exact ⟨E, M, .sy (.imm _ _ _ _ _), ⟨fun _ _ _ => rfl, MLe.refl _⟩, rfl, h, hd, g⟩
    case prow i n => exact frzP_ok (m := 0) h (.inl hd) g
    case pfix i n m =>
      obtain ⟨g1, g2⟩ := mustP_ok g
      exact frzP_ok (m := m) h (.inr ⟨g1, hd⟩) g2
  · have := toP_pure hd g
    obtain ⟨p, _, _, g⟩ := toP_ok (K := fun _ => K v M) hd g
    exact ⟨E, M, _, ⟨fun _ _ _ => rfl, MLe.refl _⟩, rfl, h, this, g⟩
end
end Go.Sy
