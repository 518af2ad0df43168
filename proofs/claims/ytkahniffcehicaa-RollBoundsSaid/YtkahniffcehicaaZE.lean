/- The executor for symbolic runs: slices that are terms, what lies in them. No condition: definitions and plain lemmas. -/
import Derived.Test.YtkahniffcehicaaZD
namespace Go.Sy
open Go Go.RowKit Go.Eng

section
variable {P : Program} {E : Env} {ρ : Ren} {G : GS} {F : List Chunk} {M : T} {nx : Nat} {w : World}

/-! ### To and fro -/
noncomputable def toA (p : PL) : AV := PL.casesOn p (fun k z => .int k z) (fun b => .bool b) (fun l => .str l) .nilP .nilS .nilM .nilF .nilI (fun k z => .sy (.int k z)) (fun p => .sy (.bool p)) (fun l => .sy (.str l)) (fun h sz α l enc => .sy (.imm h sz α l enc))
theorem toA_den {p : PL} (h : OkP E.M p) : den E ρ (toA p) = some (valP p) := by
  cases p with
  | imm => exact denP_mk h
  | _ => rfl
noncomputable def mapA (l : List PL) : List AV := List.rec [] (fun p _ ih => toA p :: ih) l
theorem mapA_eq : ∀ l, mapA l = l.map toA
  | [] => rfl
  | p :: l => by rw [List.map_cons, ← mapA_eq l]; rfl
theorem mapA_den : ∀ {l : List PL}, (∀ p ∈ l, OkP E.M p) → denL E ρ (mapA l) = some (l.map valP)
  | [], _ => rfl
  | p :: l, h => denL_mk (toA_den (h p (by simp))) (mapA_den fun q hq => h q (by simp [hq]))
noncomputable def toP (v : AV) (K : PL → Bool) : Bool := AV.casesOn v false (fun k z => K (.int k z)) (fun b => K (.bool b)) (fun l => K (.str l)) (fun _ _ => false) (fun _ _ _ _ => false) (fun _ => false) (K .nilP) (K .nilS) (K .nilM) (K .nilF) (K .nilI) (fun _ _ => false) (fun _ _ => false) (fun _ => false) (fun _ => false) (fun _ => false) (fun _ => false)
  fun s => SY.casesOn s (fun k z => K (.sint k z)) (fun p => K (.sbool p)) (fun l => K (.sstr l)) (fun h sz α l enc => K (.imm h sz α l enc)) (fun _ _ _ => false) (fun _ _ => false) (fun _ _ _ _ => false) (fun _ _ _ _ => false) (fun _ _ _ => false)
theorem toP_ok {v : AV} {x : Value} {K : PL → Bool} (hd : den E ρ v = some x) (h : toP v K = true) : ∃ p, OkP E.M p ∧ x = valP p ∧ K p = true := by
  cases v <;> first | (cases h; done) | skip
  case int k z => cases hd; exact ⟨.int k z, .int k z, rfl, h⟩
  case bool b => cases hd; exact ⟨.bool b, .bool b, rfl, h⟩
  case str l => cases hd; exact ⟨.str l, .str l, rfl, h⟩
  case nilP => cases hd; exact ⟨.nilP, .nilP, rfl, h⟩
  case nilS => cases hd; exact ⟨.nilS, .nilS, rfl, h⟩
  case nilM => cases hd; exact ⟨.nilM, .nilM, rfl, h⟩
  case nilF => cases hd; exact ⟨.nilF, .nilF, rfl, h⟩
  case nilI => cases hd; exact ⟨.nilI, .nilI, rfl, h⟩
  case sy s =>
    cases s <;> first | (cases h; done) | skip
    case int k z => cases hd; exact ⟨.sint k z, .sint k z, rfl, h⟩
    case bool p => cases hd; exact ⟨.sbool p, .sbool p, rfl, h⟩
    case str l => cases hd; exact ⟨.sstr l, .sstr l, rfl, h⟩
    case imm hh sz α l enc =>
      obtain ⟨h1, h2⟩ := denP_some (show denP E (.imm hh sz α l enc) = some x from hd)
      exact ⟨_, h1, h2, h⟩
noncomputable def toPs (vs : List AV) : (List PL → Bool) → Bool := List.rec (fun K => K []) (fun v _ ih K => toP v fun p => ih fun ps => K (p :: ps)) vs
theorem toPs_ok : ∀ {vs : List AV} {xs : List Value} {K : List PL → Bool}, denL E ρ vs = some xs → toPs vs K = true → ∃ ps, (∀ p ∈ ps, OkP E.M p) ∧ xs = ps.map valP ∧ K ps = true ∧ ps.length = vs.length
  | [], xs, K, hd, h => by
    simp [denL] at hd
    subst hd
    exact ⟨[], by simp, rfl, h, rfl⟩
  | v :: vs, xs, K, hd, h => by
    obtain ⟨x, ys, h1, h2, rfl⟩ := denL_cons hd
    obtain ⟨p, p1, rfl, p2⟩ := toP_ok (K := fun p => toPs vs fun ps => K (p :: ps)) h1 h
    obtain ⟨ps, q1, rfl, q2, q3⟩ := toPs_ok h2 p2
    exact ⟨p :: ps, fun q hq => by
      rcases List.mem_cons.1 hq with rfl | hq
      · exact p1
      · exact q1 q hq, rfl, q2, by simp [q3]⟩
theorem valP_one {p : PL} {M : Mem} (h : OkP M p) : Value.oneCell' (valP p) = true := by
  cases h with
  | imm ao cap hh => subst hh; rfl
  | _ => rfl

theorem okImm {M : Mem} {h : Value} {sz : Nat} {α : Type} {l : List α} {enc : α → List PL} (hp : OkP M (.imm h sz α l enc)) : ∃ ao cap, h = .slice ao l.length cap ∧ l.length ≤ cap ∧ cap ≤ maxLen ∧ 0 < sz ∧
    (0 < l.length → ao = some ⟨blk ao, ofs ao, none⟩) ∧ (∀ x ∈ l, (enc x).length = sz) ∧ (∀ x ∈ l, ∀ p ∈ enc x, OkP M p) ∧ (∀ i x, l[i]? = some x → MRow M (blk ao) (ofs ao + i * sz) ((enc x).map valP)) := by
  cases hp with
  | imm ao cap hh h1 h2 h3 ha hl ho hr => exact ⟨ao, cap, hh, h1, h2, h3, ha, hl, ho, hr⟩

/-! ### What a slice's value says -/
theorem hdrP_form {e : REnt} {n : Nat} {x : Value} (h : hdrP e n = some x) : (e.cap = 0 ∧ n = 0 ∧ x = .slice none 0 0) ∨ ∃ c, e.cap = c + 1 ∧ x = .slice (some ⟨e.b, 0, none⟩) n c := by
  unfold hdrP at h
  split at h
  · rename_i hc
    split at h
    · rename_i hn; cases h; exact .inl ⟨hc, hn, rfl⟩
    · cases h
  · rename_i c hc; cases h; exact .inr ⟨c, hc, rfl⟩
theorem hdrF_form {e : REnt} {n m : Nat} {x : Value} (h : hdrF e n m = some x) : (e.cap = 0 ∧ n = 0 ∧ m = 0 ∧ x = .slice none 0 0) ∨ ∃ c, e.cap = c + 1 ∧ x = .slice (some ⟨e.b, 0, none⟩) n m := by
  unfold hdrF at h
  split at h
  · rename_i hc
    split at h
    · rename_i hn; cases h; exact .inl ⟨hc, hn.1, hn.2, rfl⟩
    · cases h
  · rename_i c hc; cases h; exact .inr ⟨c, hc, rfl⟩
theorem hdrS_form {e : REnt} {sz a n : Nat} {x : Value} (h : hdrS e sz a n = some x) : (e.cap = 0 ∧ n = 0 ∧ a = 0 ∧ x = .slice none 0 0) ∨ ∃ c, e.cap = c + 1 ∧ x = .slice (some ⟨e.b, if c = a then 0 else a * sz, none⟩) n (c - a) ∧ a + n ≤ c := by
  unfold hdrS at h
  split at h
  · rename_i hc
    split at h
    · rename_i hn; cases h; exact .inl ⟨hc, hn.1, hn.2, rfl⟩
    · cases h
  · rename_i c hc
    split at h
    · rename_i hn; cases h; exact .inr ⟨c, hc, rfl, hn⟩
    · cases h
theorem run_lenS {t ty e : TypeId} (ht : P.underlying t = some (.slice e)) (ao : Option Addr) (n c : Nat) (cs : Array Bool) (w : World) : (builtin .len #[t] ty cs #[.slice ao n c]).run P w = .ok (.value (.int .i64 n)) w := by
  simp [builtin, Builtin.len_, goInt, run_underlying ht]
noncomputable def lenS (u : AV) (K : AV → Bool) : Bool := asSy u fun s => SY.casesOn s (fun _ _ => false) (fun _ => false) (fun _ => false) (fun _ _ _ l _ => K (.sy (.int 0 (l.length : Int)))) (fun _ _ _ => false) (fun _ n => K (.sy (.int 0 (n : Int)))) (fun _ _ _ n => K (.sy (.int 0 (n : Int)))) (fun _ _ _ _ => false) (fun _ n _ => K (.sy (.int 0 (n : Int))))
noncomputable def lenY (u : AV) (K : AV → Bool) : Bool := ifB (isSy u) (lenS u K) (lenX u K)
theorem lenY_ok {v : AV} {K : AV → Bool} {x : Value} {t ty e : TypeId} (ht : P.underlying t = some (.slice e)) (hv : den E ρ v = some x) (hk : lenY v K = true) : ∃ u z, den E ρ u = some z ∧ K u = true ∧ ∀ (cs : Array Bool) w, (builtin .len #[t] ty cs #[x]).run P w = .ok (.value z) w := by
  rcases ifB_ok hk with ⟨-, g⟩ | ⟨-, g⟩
  · replace g := asSy_ok g
    obtain ⟨s, rfl, g⟩ := g
    cases s <;> first | (cases g; done) | skip
    case imm h sz α l enc =>
      obtain ⟨h1, rfl⟩ := denP_some (show denP E (.imm h sz α l enc) = some x from hv)
      obtain ⟨ao, cap, rfl, _⟩ := okImm h1
      exact ⟨_, .int .i64 (l.length : Int), rfl, g, fun cs w => run_lenS ht _ _ _ cs w⟩
    case prow i n =>
      refine ⟨.sy (.int 0 (n : Int)), .int .i64 (n : Int), rfl, g, fun cs w => ?_⟩
      simp only [den, denS] at hv
      split at hv
      · rcases hdrP_form hv with ⟨_, rfl, rfl⟩ | ⟨c, _, rfl⟩ <;> rw [run_lenS ht]
      · cases hv
    case psub i sz a n =>
      refine ⟨.sy (.int 0 (n : Int)), .int .i64 (n : Int), rfl, g, fun cs w => ?_⟩
      simp only [den, denS] at hv
      split at hv
      · rcases hdrS_form hv with ⟨_, rfl, rfl, rfl⟩ | ⟨c, _, rfl, _⟩ <;> rw [run_lenS ht]
      · cases hv
    case pfix i n c =>
      refine ⟨.sy (.int 0 (n : Int)), .int .i64 (n : Int), rfl, g, fun cs w => ?_⟩
      simp only [den, denS] at hv
      split at hv
      · rcases hdrF_form hv with ⟨_, rfl, rfl, rfl⟩ | ⟨c, _, rfl⟩ <;> rw [run_lenS ht]
      · cases hv
  · exact lenX_ok ht hv g

/-! ### Addresses -/
noncomputable def faS (off : Nat) (v : AV) (K : AV → Bool) : Bool := asSy v fun s => SY.casesOn s (fun _ _ => false) (fun _ => false) (fun _ => false) (fun _ _ _ _ _ => false) (fun b o cs => K (.sy (.pim b (o + off) (drp cs off)))) (fun _ _ => false) (fun _ _ _ _ => false) (fun i sz q o => K (.sy (.rptr i sz q (o + off)))) (fun _ _ _ => false)
noncomputable def faY (off : Nat) (v : AV) (K : AV → Bool) : Bool := ifB (isSy v) (faS off v K) (faX off v K)
theorem run_fieldAt {t i off b o : Nat} (h : fOff P t i = some off) (w : World) : (Instr.fieldAt t (.pointer (some ⟨b, o, none⟩)) i).run P w = .ok (.pointer (some ⟨b, o + off, none⟩)) w := by
  have h' := h
  unfold fOff at h'
  rcases ht : P.underlying t with _ | d
  · simp [ht] at h'
  rw [ht] at h'
  cases d <;> simp at h'
  rename_i fs
  rcases hf : fs[i]? with _ | f
  · simp [hf] at h'
  simp [Instr.fieldAt, Instr.sureAddr, run_underlying ht, hf, run_fieldPlace ht hf h]
theorem pim_drop {b o : Nat} {cs : List PL} (off : Nat) (h : (∀ p ∈ cs, OkP E.M p) ∧ MRow E.M b o (cs.map valP)) : (∀ p ∈ cs.drop off, OkP E.M p) ∧ MRow E.M b (o + off) ((cs.drop off).map valP) :=
  ⟨fun p hp => h.1 p (List.mem_of_mem_drop hp), fun j v hv => by
    have := h.2 (off + j) v (by rw [List.map_drop, List.getElem?_drop] at hv; exact hv)
    rwa [← Nat.add_assoc] at this⟩
theorem denS_pim {b o : Nat} {cs : List PL} {x : Value} (h : denS E ρ (.pim b o cs) = some x) : ((∀ p ∈ cs, OkP E.M p) ∧ MRow E.M b o (cs.map valP)) ∧ x = .pointer (some ⟨b, o, none⟩) := by
  simp only [denS] at h
  split at h
  · exact ⟨‹_›, (Option.some.inj h).symm⟩
  · cases h
theorem denS_pim_mk {b o : Nat} {cs : List PL} (h : (∀ p ∈ cs, OkP E.M p) ∧ MRow E.M b o (cs.map valP)) : denS E ρ (.pim b o cs) = some (.pointer (some ⟨b, o, none⟩)) := by
  simp only [denS]; rw [if_pos h]
theorem denS_rptr {i sz q o : Nat} {x : Value} (h : denS E ρ (.rptr i sz q o) = some x) : ∃ e, ρ i = some e ∧ x = .pointer (some ⟨e.b, q * sz + o, none⟩) := by
  simp only [denS] at h
  split at h
  · rename_i e he; exact ⟨e, he, (Option.some.inj h).symm⟩
  · cases h
theorem faY_ok {off : Nat} {v : AV} {K : AV → Bool} {x : Value} {t i : Nat} (h : fOff P t i = some off) (hv : den E ρ v = some x) (hk : faY off v K = true) : ∃ u z, den E ρ u = some z ∧ K u = true ∧ ∀ w, (Instr.fieldAt t x i).run P w = .ok z w := by
  rcases ifB_ok hk with ⟨-, g⟩ | ⟨-, g⟩
  · replace g := asSy_ok g
    obtain ⟨s, rfl, g⟩ := g
    cases s <;> first | (cases g; done) | skip
    case pim b o cs =>
      obtain ⟨h1, rfl⟩ := denS_pim (show denS E ρ (.pim b o cs) = some x from hv)
      replace g : K (.sy (.pim b (o + off) (drp cs off))) = true := g
      rw [drp_eq] at g
      exact ⟨_, _, show den E ρ (.sy (.pim b (o + off) (cs.drop off))) = _ from denS_pim_mk (pim_drop off h1), g, fun w => run_fieldAt h w⟩
    case rptr j sz q o =>
      obtain ⟨e, he, rfl⟩ := denS_rptr (show denS E ρ (.rptr j sz q o) = some x from hv)
      exact ⟨_, .pointer (some ⟨e.b, q * sz + (o + off), none⟩), by simp only [den, denS, he], g, fun w => by rw [run_fieldAt h, Nat.add_assoc]⟩
  · exact faX_ok h hv g
noncomputable def nckS (v : AV) (K : AV → Bool) : Bool := asSy v fun s => SY.casesOn s (fun _ _ => false) (fun _ => false) (fun _ => false) (fun _ _ _ _ _ => false) (fun _ _ _ => K v) (fun _ _ => false) (fun _ _ _ _ => false) (fun _ _ _ _ => K v) (fun _ _ _ => false)
noncomputable def nckY (v : AV) (K : AV → Bool) : Bool := ifB (isSy v) (nckS v K) (nckX v K)
theorem nckY_ok {v : AV} {K : AV → Bool} {x : Value} (hv : den E ρ v = some x) (hk : nckY v K = true) {a : Act} {o : Operand} (ha : a.eval o = x) {dst : Option Tmp} {ty : TypeId} {pos : String} {af : Array Edge} {g : Option (Nat × Bool)} :
    K v = true ∧ ∀ w, (execOp a.eval ⟨dst, .nilCheck o, ty, pos, af, g⟩).run P w = .ok (.value x) w := by
  rcases ifB_ok hk with ⟨-, k⟩ | ⟨-, k⟩
  · replace k := asSy_ok k
    obtain ⟨s, rfl, k⟩ := k
    cases s <;> first | (cases k; done) | skip
    case pim b o cs =>
      obtain ⟨h1, rfl⟩ := denS_pim (show denS E ρ (.pim b o cs) = some x from hv)
      exact ⟨k, fun w => by simp [execOp, ha]⟩
    case rptr j sz q o =>
      obtain ⟨e, he, rfl⟩ := denS_rptr (show denS E ρ (.rptr j sz q o) = some x from hv)
      exact ⟨k, fun w => by simp [execOp, ha]⟩
  · exact nckX_ok hv k ha
/-- A number among the first n: the ways part. -/
noncomputable def fork (n : Nat) (z : Int) (K : Nat → Bool) : Nat → Bool := Nat.rec (fun _ => must (prB False) true) (fun _ ih k => ifB (prB (z = Int.ofNat k)) (K k) (ih (Nat.succ k))) n
theorem fork_ok {z : Int} {K : Nat → Bool} : ∀ {n k : Nat}, fork n z K k = true → ∃ j : Nat, z = (j : Int) ∧ j < k + n ∧ K j = true
  | 0, k, h => absurd (mustP_ok (show must (prB False) true = true from h)).1 id
  | n + 1, k, h => by
    have h' : ifB (prB (z = Int.ofNat k)) (K k) (fork n z K (Nat.succ k)) = true := h
    rcases ifP_ok h' with ⟨q, g⟩ | ⟨_, g⟩
    · exact ⟨k, q, by omega, g⟩
    · obtain ⟨j, h1, h2, h3⟩ := fork_ok g
      exact ⟨j, h1, by omega, h3⟩
noncomputable def ixaS (n sz : Nat) (v iv : AV) (K : AV → Bool) : Bool := asPtr v fun i o => asZ iv fun _ z => fork n z (fun k => fN (Nat.add o (Nat.mul k sz)) fun o => K (.ptr i o)) 0
noncomputable def ixaY (n sz : Nat) (v iv : AV) (K : AV → Bool) : Bool := ifB (isSy iv) (ixaS n sz v iv K) (ixaX n sz v iv K)
theorem ixaY_ok {n sz : Nat} {v iv : AV} {K : AV → Bool} {x y : Value} {t e : TypeId} (ht : P.underlying t = some (.array n e)) (hs : szOf P e = some sz) (hv : den E ρ v = some x) (hi : den E ρ iv = some y) (hk : ixaY n sz v iv K = true) :
    ∃ u z, den E ρ u = some z ∧ K u = true ∧ ∀ w, (Instr.indexAt t x y).run P w = .ok z w := by
  rcases ifB_ok hk with ⟨-, g⟩ | ⟨-, g⟩
  · obtain ⟨j, o, rfl, k1⟩ := asPtr_ok g
    obtain ⟨kd, z, rfl, k2⟩ := asZ_ok hi k1
    obtain ⟨q, rfl, hq, k3⟩ := fork_ok k2
    rw [fN_eq] at k3
    simp only [den] at hv
    split at hv
    · rename_i f hf
      cases hv
      have hq : q < n := by omega
      refine ⟨_, .pointer (some ⟨f.b, o + q * sz, none⟩), by simp only [den, hf]; rfl, k3, fun w => ?_⟩
      simp [Instr.indexAt, Instr.sureAddr, asIntOf, run_underlying ht, Go.Eng.run_sizeOf hs, hq, add_mk]
    · cases hv
  · exact ixaX_ok ht hs hv hi g
def blkV : Value → Nat
  | .slice ao _ _ => blk ao
  | _ => 0
def ofsV : Value → Nat
  | .slice ao _ _ => ofs ao
  | _ => 0
noncomputable def ixsS (sz : Nat) (v iv : AV) (K : AV → Bool) : Bool := asZ iv fun _ z => asSy v fun s => SY.casesOn s (fun _ _ => false) (fun _ => false) (fun _ => false)
  (fun h sz' _ l enc => must (Nat.beq sz sz') (must (prB (0 ≤ z ∧ z < (l.length : Int))) (allB fun x => ifB (prB (l[z.toNat]? = some x)) (K (.sy (.pim (blkV h) (ofsV h + z.toNat * sz) (enc x)))) true)))
  (fun _ _ _ => false) (fun i n => must (prB (0 ≤ z ∧ z < (n : Int))) (K (.sy (.rptr i sz z.toNat 0)))) (fun i sz' a n => must (Nat.beq sz sz') (must (prB (0 ≤ z ∧ z < (n : Int))) (K (.sy (.rptr i sz (a + z.toNat) 0))))) (fun _ _ _ _ => false)
  (fun i n _ => must (prB (0 ≤ z ∧ z < (n : Int))) (K (.sy (.rptr i sz z.toNat 0))))
noncomputable def ixsC (sz : Nat) (v iv : AV) (K : AV → Bool) : Bool := asSl v false fun i o n _ => asZ iv fun _ z => fork n z (fun k => fN (Nat.add o (Nat.mul k sz)) fun o => K (.ptr i o)) 0
noncomputable def ixsY (sz : Nat) (v iv : AV) (K : AV → Bool) : Bool := ifB (isSy v) (ixsS sz v iv K) (ifB (isSy iv) (ixsC sz v iv K) (ixsX sz v iv K))
theorem run_indexS {t e sz n c i : Nat} {k : IntKind} {b o : Nat} (ht : P.underlying t = some (.slice e)) (hs : szOf P e = some sz) (hi : i < n) (w : World) : (Instr.indexAt t (.slice (some ⟨b, o, none⟩) n c) (.int k (i : Int))).run P w = .ok (.pointer (some ⟨b, o + i * sz, none⟩)) w := by
  simp [Instr.indexAt, asIntOf, run_underlying ht, Go.Eng.run_sizeOf hs, hi, add_mk]
theorem ixsY_ok {sz : Nat} {v iv : AV} {K : AV → Bool} {x y : Value} {t e : TypeId} (ht : P.underlying t = some (.slice e)) (hs : szOf P e = some sz) (hv : den E ρ v = some x) (hi : den E ρ iv = some y) (hk : ixsY sz v iv K = true) :
    ∃ u z, den E ρ u = some z ∧ K u = true ∧ ∀ w, (Instr.indexAt t x y).run P w = .ok z w := by
  rcases ifB_ok hk with ⟨-, g⟩ | ⟨-, g⟩
  · replace g := asZ_ok hi g
    obtain ⟨kd, z, rfl, g⟩ := g
    replace g := asSy_ok g
    obtain ⟨s, rfl, g⟩ := g
    cases s <;> first | (cases g; done) | skip
    case imm h sz' α l enc =>
      obtain ⟨g1, g2⟩ := must_ok g
      have g1 := Nat.eq_of_beq_eq_true g1
      subst g1
      obtain ⟨⟨z0, zl⟩, g3⟩ := mustP_ok g2
      obtain ⟨n, rfl⟩ := Int.eq_ofNat_of_zero_le z0
      have hlt : n < l.length := by omega
      obtain ⟨h1, rfl⟩ := denP_some (show denP E (.imm h sz α l enc) = some x from hv)
      obtain ⟨ao, cap, rfl, c1, c2, c3, ha, hl, ho, hr⟩ := okImm h1
      ·
        have g4 := allB_ok g3 l[n]
        rcases ifP_ok g4 with ⟨q, g5⟩ | ⟨q, _⟩
        · have hx : l[n]? = some l[n] := List.getElem?_eq_getElem hlt
          have hao := ha (by omega)
          refine ⟨.sy (.pim _ _ _), _, denS_pim_mk (ρ := ρ) ⟨ho _ (List.getElem_mem hlt), ?_⟩, g5, fun w => ?_⟩
          · simpa [blkV, ofsV] using hr n _ hx
          · show (Instr.indexAt t (.slice ao l.length cap) (.int (kOf kd) (n : Int))).run P w = _
            rw [hao, run_indexS ht hs hlt]
            rfl
        · exact absurd (by simp [hlt]) q
    case prow i n =>
      obtain ⟨⟨z0, zl⟩, g3⟩ := mustP_ok g
      obtain ⟨m, rfl⟩ := Int.eq_ofNat_of_zero_le z0
      have hlt : m < n := by omega
      simp only [den, denS] at hv
      split at hv
      case h_2 => cases hv
      rename_i f hf
      rcases hdrP_form hv with ⟨_, q, rfl⟩ | ⟨c, _, rfl⟩
      · omega
      · exact ⟨_, .pointer (some ⟨f.b, m * sz + 0, none⟩), by simp only [den, denS, hf]; rfl, g3, fun w => by rw [run_indexS ht hs hlt, Nat.zero_add, Nat.add_zero]⟩
    case psub i sz' a n =>
      obtain ⟨g1, g2⟩ := must_ok g
      have g1 := Nat.eq_of_beq_eq_true g1
      subst g1
      obtain ⟨⟨z0, zl⟩, g3⟩ := mustP_ok g2
      obtain ⟨m, rfl⟩ := Int.eq_ofNat_of_zero_le z0
      have hlt : m < n := by omega
      simp only [den, denS] at hv
      split at hv
      case h_2 => cases hv
      rename_i f hf
      rcases hdrS_form hv with ⟨_, q, _, rfl⟩ | ⟨c, _, rfl, hc⟩
      · omega
      · have hne : ¬ c = a := by omega
        rw [if_neg hne]
        refine ⟨_, .pointer (some ⟨f.b, (a + m) * sz + 0, none⟩), by simp only [den, denS, hf]; rfl, g3, fun w => ?_⟩
        rw [run_indexS ht hs hlt, Nat.add_mul, Nat.add_zero]
    case pfix i n cc =>
      obtain ⟨⟨z0, zl⟩, g3⟩ := mustP_ok g
      obtain ⟨m, rfl⟩ := Int.eq_ofNat_of_zero_le z0
      have hlt : m < n := by omega
      simp only [den, denS] at hv
      split at hv
      case h_2 => cases hv
      rename_i f hf
      rcases hdrF_form hv with ⟨_, q, _, rfl⟩ | ⟨c, _, rfl⟩
      · omega
      · exact ⟨_, .pointer (some ⟨f.b, m * sz + 0, none⟩), by simp only [den, denS, hf]; rfl, g3, fun w => by rw [run_indexS ht hs hlt, Nat.zero_add, Nat.add_zero]⟩
  · rcases ifB_ok g with ⟨-, g⟩ | ⟨-, g⟩
    · rcases asSl_ok g with ⟨_, k1⟩ | ⟨j, o, n, c, rfl, k1⟩
      · cases k1
      obtain ⟨kd, z, rfl, k2⟩ := asZ_ok hi k1
      obtain ⟨q, rfl, hq, k3⟩ := fork_ok k2
      rw [fN_eq] at k3
      simp only [den] at hv
      split at hv
      · rename_i f hf
        cases hv
        have hq : q < n := by omega
        exact ⟨_, .pointer (some ⟨f.b, o + q * sz, none⟩), by simp only [den, hf]; rfl, k3, fun w => run_indexS ht hs hq w⟩
      · cases hv
    · exact ixsX_ok ht hs hv hi g
end
end Go.Sy
