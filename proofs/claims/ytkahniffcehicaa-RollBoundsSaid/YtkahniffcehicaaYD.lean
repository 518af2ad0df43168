/- The executor: operations on plain values. No condition: definitions and plain lemmas. -/
import Derived.Test.YtkahniffcehicaaYC
namespace Go.Sy
open Go Go.RowKit Go.Eng

/-! ### Two integers -/
def bopA : Nat → BinOp
  | 0 => .add | 1 => .sub | 2 => .mul | 3 => .quo | _ => .rem
noncomputable def arX (o : Nat) (v1 v2 : AV) (K : AV → Bool) : Bool :=
  asI v1 fun k a => asI v2 fun k2 b => must (Nat.beq k k2) (
    Nat.rec (wrI k (Int.add a b) fun z => K (.int k z)) (fun o _ =>
    Nat.rec (wrI k (Int.sub a b) fun z => K (.int k z)) (fun o _ =>
    Nat.rec (wrI k (Int.mul a b) fun z => K (.int k z)) (fun o _ =>
    Nat.rec (ifB (eqI b 0) false (wrI k (Int.tdiv a b) fun z => K (.int k z))) (fun _ _ =>
    ifB (eqI b 0) false (fI (Int.tmod a b) fun z => K (.int k z))) o) o) o) o)
def bopB : Nat → BinOp
  | 0 => .and | 1 => .or | 2 => .xor | _ => .andNot
def bitsZ (o : Nat) (k : Nat) (a b : Int) : Int :=
  let x := BitVec.ofInt (kOf k).bits a
  let y := BitVec.ofInt (kOf k).bits b
  (kOf k).wrap (match o with | 0 => (x &&& y).toNat | 1 => (x ||| y).toNat | 2 => (x ^^^ y).toNat | _ => (x &&& ~~~y).toNat)
noncomputable def bitX (o : Nat) (v1 v2 : AV) (K : AV → Bool) : Bool :=
  asI v1 fun k a => asI v2 fun k2 b => must (Nat.beq k k2) (fI (bitsZ o k a b) fun z => K (.int k z))
noncomputable def shX (right : Bool) (v1 v2 : AV) (K : AV → Bool) : Bool :=
  asI v1 fun k a => asI v2 fun _ b => ifB (ltI b 0) false (ifB right (fI (Int.fdiv a (2 ^ (min b.toNat (kOf k).bits))) fun z => K (.int k z)) (wrI k (Int.mul a (2 ^ (min b.toNat (kOf k).bits))) fun z => K (.int k z)))
theorem two_ok {v1 v2 : AV} {f : Nat → Int → Int → Bool} (h : (asI v1 fun k a => asI v2 fun k2 b => must (Nat.beq k k2) (f k a b)) = true) : ∃ k a b, v1 = .int k a ∧ v2 = .int k b ∧ f k a b = true := by
  obtain ⟨k, a, e1, h1⟩ := asI_ok h
  obtain ⟨k2, b, e2, h2⟩ := asI_ok h1
  obtain ⟨h3, h4⟩ := must_ok h2
  have := Nat.eq_of_beq_eq_true h3
  subst this
  exact ⟨k, a, b, e1, e2, h4⟩
theorem two_ok' {v1 v2 : AV} {f : Nat → Int → Nat → Int → Bool} (h : (asI v1 fun k a => asI v2 fun k2 b => f k a k2 b) = true) : ∃ k a k2 b, v1 = .int k a ∧ v2 = .int k2 b ∧ f k a k2 b = true := by
  obtain ⟨k, a, e1, h1⟩ := asI_ok h
  obtain ⟨k2, b, e2, h2⟩ := asI_ok h1
  exact ⟨k, a, k2, b, e1, e2, h2⟩
theorem arX_ok {P : Program} {E : Env} {ρ : Ren} {o : Nat} {v1 v2 : AV} {K : AV → Bool} {x y : Value} (h1 : den E ρ v1 = some x) (h2 : den E ρ v2 = some y) (h : arX o v1 v2 K = true) (t : TypeId) (p q : Operand) :
    ∃ v z, den E ρ v = some z ∧ K v = true ∧ ∀ w, ((do eqGuard (bopA o) t p q x y; binOp (bopA o) t x y) : Sem Value).run P w = .ok z w := by
  match o with
  | 0 =>
    obtain ⟨k, a, b, rfl, rfl, g⟩ := two_ok (f := fun k a b => wrI k (Int.add a b) fun z => K (.int k z)) h
    rw [wrI_eq] at g
    cases h1; cases h2
    exact ⟨_, _, rfl, g, fun w => by simp [bopA, eqGuard, binOp, Op.intArith] <;> rfl⟩
  | 1 =>
    obtain ⟨k, a, b, rfl, rfl, g⟩ := two_ok (f := fun k a b => wrI k (Int.sub a b) fun z => K (.int k z)) h
    rw [wrI_eq] at g
    cases h1; cases h2
    exact ⟨_, _, rfl, g, fun w => by simp [bopA, eqGuard, binOp, Op.intArith] <;> rfl⟩
  | 2 =>
    obtain ⟨k, a, b, rfl, rfl, g⟩ := two_ok (f := fun k a b => wrI k (Int.mul a b) fun z => K (.int k z)) h
    rw [wrI_eq] at g
    cases h1; cases h2
    exact ⟨_, _, rfl, g, fun w => by simp [bopA, eqGuard, binOp, Op.intArith] <;> rfl⟩
  | 3 =>
    obtain ⟨k, a, b, rfl, rfl, g⟩ := two_ok (f := fun k a b => ifB (eqI b 0) false (wrI k (Int.tdiv a b) fun z => K (.int k z))) h
    rcases ifB_ok g with ⟨_, g⟩ | ⟨hb, g⟩
    · cases g
    rw [eqI_eq, decide_eq_false_iff_not] at hb
    rw [wrI_eq] at g
    cases h1; cases h2
    exact ⟨_, _, rfl, g, fun w => by simp [bopA, eqGuard, binOp, Op.intDiv, hb]⟩
  | o + 4 =>
    obtain ⟨k, a, b, rfl, rfl, g⟩ := two_ok (f := fun k a b => ifB (eqI b 0) false (fI (Int.tmod a b) fun z => K (.int k z))) h
    rcases ifB_ok g with ⟨_, g⟩ | ⟨hb, g⟩
    · cases g
    rw [eqI_eq, decide_eq_false_iff_not] at hb
    rw [fI_eq] at g
    cases h1; cases h2
    exact ⟨_, _, rfl, g, fun w => by simp [bopA, eqGuard, binOp, Op.intDiv, hb]⟩
theorem bitX_ok {P : Program} {E : Env} {ρ : Ren} {o : Nat} {v1 v2 : AV} {K : AV → Bool} {x y : Value} (h1 : den E ρ v1 = some x) (h2 : den E ρ v2 = some y) (h : bitX o v1 v2 K = true) (t : TypeId) (p q : Operand) :
    ∃ v z, den E ρ v = some z ∧ K v = true ∧ ∀ w, ((do eqGuard (bopB o) t p q x y; binOp (bopB o) t x y) : Sem Value).run P w = .ok z w := by
  obtain ⟨k, a, b, rfl, rfl, g⟩ := two_ok (f := fun k a b => fI (bitsZ o k a b) fun z => K (.int k z)) h
  rw [fI_eq] at g
  cases h1; cases h2
  refine ⟨_, _, rfl, g, fun w => ?_⟩
  match o with
  | 0 => simp [bopB, eqGuard, binOp, Op.intBits, bitsZ]
  | 1 => simp [bopB, eqGuard, binOp, Op.intBits, bitsZ]
  | 2 => simp [bopB, eqGuard, binOp, Op.intBits, bitsZ]
  | o + 3 => simp [bopB, eqGuard, binOp, Op.intBits, bitsZ]
theorem shX_ok {P : Program} {E : Env} {ρ : Ren} {right : Bool} {v1 v2 : AV} {K : AV → Bool} {x y : Value} (h1 : den E ρ v1 = some x) (h2 : den E ρ v2 = some y) (h : shX right v1 v2 K = true) (t : TypeId) (p q : Operand) :
    ∃ v z, den E ρ v = some z ∧ K v = true ∧ ∀ w, ((do eqGuard (bif right then .shr else .shl) t p q x y; binOp (bif right then .shr else .shl) t x y) : Sem Value).run P w = .ok z w := by
  obtain ⟨k, a, k2, b, rfl, rfl, g⟩ := two_ok' (f := fun k a _ b => ifB (ltI b 0) false (ifB right (fI (Int.fdiv a (2 ^ (min b.toNat (kOf k).bits))) fun z => K (.int k z)) (wrI k (Int.mul a (2 ^ (min b.toNat (kOf k).bits))) fun z => K (.int k z)))) h
  rcases ifB_ok g with ⟨_, g⟩ | ⟨hb, g⟩
  · cases g
  rw [ltI_eq, decide_eq_false_iff_not] at hb
  cases h1; cases h2
  rcases ifB_ok g with ⟨rfl, g⟩ | ⟨rfl, g⟩
  · rw [fI_eq] at g
    exact ⟨_, _, rfl, g, fun w => by simp [eqGuard, binOp, Op.shift, hb]⟩
  · rw [wrI_eq] at g
    exact ⟨_, _, rfl, g, fun w => by simp [eqGuard, binOp, Op.shift, hb] <;> rfl⟩
def copA : Nat → BinOp
  | 0 => .lss | 1 => .leq | 2 => .gtr | 3 => .geq | 4 => .eql | _ => .neq
noncomputable def cmpI (o : Nat) (a b : Int) : Bool :=
  Nat.rec (ltI a b) (fun o _ => Nat.rec (Bool.not (ltI b a)) (fun o _ => Nat.rec (ltI b a) (fun o _ => Nat.rec (Bool.not (ltI a b)) (fun o _ => Nat.rec (eqI a b) (fun _ _ => Bool.not (eqI a b)) o) o) o) o) o
noncomputable def cmpX (o : Nat) (v1 v2 : AV) (K : AV → Bool) : Bool :=
  asI v1 fun k a => asI v2 fun k2 b => must (Nat.beq k k2) (fB (cmpI o a b) fun r => K (.bool r))
theorem cmpX_ok {P : Program} {E : Env} {ρ : Ren} {o : Nat} {v1 v2 : AV} {K : AV → Bool} {x y : Value} (h1 : den E ρ v1 = some x) (h2 : den E ρ v2 = some y) (h : cmpX o v1 v2 K = true) (t : TypeId) (p q : Operand) :
    ∃ v z, den E ρ v = some z ∧ K v = true ∧ ∀ w, ((do eqGuard (copA o) t p q x y; binOp (copA o) t x y) : Sem Value).run P w = .ok z w := by
  obtain ⟨k, a, b, rfl, rfl, g⟩ := two_ok (f := fun k a b => fB (cmpI o a b) fun r => K (.bool r)) h
  rw [fB_eq] at g
  cases h1; cases h2
  refine ⟨_, _, rfl, g, fun w => ?_⟩
  match o with
  | 0 =>
    have : cmpI 0 a b = decide (a < b) := ltI_eq a b
    simp [copA, this, eqGuard, binOp, Op.intCmp]
  | 1 =>
    have : cmpI 1 a b = decide (a ≤ b) := by
      show Bool.not (ltI b a) = _
      rw [ltI_eq, Bool.eq_iff_iff]
      simp
    simp [copA, this, eqGuard, binOp, Op.intCmp]
  | 2 =>
    have : cmpI 2 a b = decide (b < a) := ltI_eq b a
    simp [copA, this, eqGuard, binOp, Op.intCmp]
  | 3 =>
    have : cmpI 3 a b = decide (b ≤ a) := by
      show Bool.not (ltI a b) = _
      rw [ltI_eq, Bool.eq_iff_iff]
      simp
    simp [copA, this, eqGuard, binOp, Op.intCmp]
  | 4 =>
    have : cmpI 4 a b = decide (a = b) := eqI_eq a b
    simp [copA, this, eqGuard, binOp, Op.intCmp, beq_dec]
  | o + 5 =>
    have : cmpI (o + 5) a b = !decide (a = b) := congrArg Bool.not (eqI_eq a b)
    simp [copA, this, eqGuard, binOp, Op.intCmp, bne, beq_dec]

/-! ### Strings -/
theorem u8inj {l m : List Nat} (hl : l.all (Nat.blt · 256) = true) (hm : m.all (Nat.blt · 256) = true) : l.map UInt8.ofNat = m.map UInt8.ofNat ↔ l = m := by
  constructor
  · intro h
    induction l generalizing m with
    | nil => cases m <;> simp at h ⊢
    | cons x l ih =>
      cases m with
      | nil => simp at h
      | cons y m =>
        simp only [List.map_cons, List.cons.injEq] at h
        simp only [List.all_cons, Bool.and_eq_true, Nat.blt_eq] at hl hm
        have : x = y := by
          have := congrArg UInt8.toNat h.1
          simp only [UInt8.toNat_ofNat'] at this
          omega
        rw [this, ih hl.2 hm.2 h.2]
  · rintro rfl; rfl
noncomputable def saddX (v1 v2 : AV) (K : AV → Bool) : Bool :=
  asStr v1 fun l => asStr v2 fun m => must (Nat.blt (Nat.add (lenL l) (lenL m)) 140737488355328) (app l m fun r => K (.str r))
theorem saddX_ok {P : Program} {E : Env} {ρ : Ren} {v1 v2 : AV} {K : AV → Bool} {x y : Value} (h1 : den E ρ v1 = some x) (h2 : den E ρ v2 = some y) (h : saddX v1 v2 K = true) (t : TypeId) (p q : Operand) :
    ∃ v z, den E ρ v = some z ∧ K v = true ∧ ∀ w, ((do eqGuard .add t p q x y; binOp .add t x y) : Sem Value).run P w = .ok z w := by
  obtain ⟨l, e1, g1⟩ := asStr_ok h
  obtain ⟨m, e2, g2⟩ := asStr_ok g1
  obtain ⟨hb, g⟩ := must_ok g2
  rw [app_eq] at g
  subst e1; subst e2
  cases h1; cases h2
  refine ⟨_, _, rfl, g, fun w => ?_⟩
  rw [lenL_eq, lenL_eq, Nat.blt_eq] at hb
  have hb : l.length + m.length < 140737488355328 := hb
  have e : (⟨(l.map UInt8.ofNat).toArray⟩ : ByteArray) ++ ⟨(m.map UInt8.ofNat).toArray⟩ = ⟨((l ++ m).map UInt8.ofNat).toArray⟩ := by
    apply ByteArray.ext
    simp
  have e1 : ByteArray.size ⟨(l.map UInt8.ofNat).toArray⟩ = l.length := by simp [ByteArray.size]
  have e2 : ByteArray.size ⟨(m.map UInt8.ofNat).toArray⟩ = m.length := by simp [ByteArray.size]
  simp [eqGuard, binOp, Op.stringOp, e1, e2, e]
  omega
noncomputable def small (l : List Nat) : Bool := List.rec true (fun x _ ih => Bool.rec false ih (Nat.blt x 256)) l
theorem small_eq : ∀ l, small l = l.all (Nat.blt · 256)
  | [] => rfl
  | x :: l => by
    have : small (x :: l) = Bool.rec (motive := fun _ => Bool) false (small l) (Nat.blt x 256) := rfl
    rw [this, small_eq l, List.all_cons]
    cases Nat.blt x 256 <;> rfl
noncomputable def seqX (ne : Bool) (v1 v2 : AV) (K : AV → Bool) : Bool :=
  asStr v1 fun l => asStr v2 fun m => must (small l) (must (small m) (fB (Bool.rec (eqL l m) (Bool.not (eqL l m)) ne) fun r => K (.bool r)))
theorem seqX_ok {P : Program} {E : Env} {ρ : Ren} {ne : Bool} {v1 v2 : AV} {K : AV → Bool} {x y : Value} (h1 : den E ρ v1 = some x) (h2 : den E ρ v2 = some y) (h : seqX ne v1 v2 K = true) (t : TypeId) (p q : Operand) :
    ∃ v z, den E ρ v = some z ∧ K v = true ∧ ∀ w, ((do eqGuard (bif ne then .neq else .eql) t p q x y; binOp (bif ne then .neq else .eql) t x y) : Sem Value).run P w = .ok z w := by
  obtain ⟨l, e1, g1⟩ := asStr_ok h
  obtain ⟨m, e2, g2⟩ := asStr_ok g1
  obtain ⟨hl, g3⟩ := must_ok g2
  obtain ⟨hm, g⟩ := must_ok g3
  rw [small_eq] at hl hm
  rw [fB_eq] at g
  subst e1; subst e2
  cases h1; cases h2
  refine ⟨_, _, rfl, g, fun w => ?_⟩
  have hi := u8inj hl hm
  cases ne
  · simp only [cond_false, eqGuard, binOp, Op.stringOp, toList_mk, eqL_eq, Sem.run_bind, Sem.run_pure, Result.andThen_ok]
    by_cases h : l = m
    · subst h; simp
    · simp [h, hi]
  · simp only [cond_true, eqGuard, binOp, Op.stringOp, toList_mk, eqL_eq, Sem.run_bind, Sem.run_pure, Result.andThen_ok]
    by_cases h : l = m
    · subst h; simp
    · simp [h, hi]

/-! ### One operand -/
noncomputable def notX (v : AV) (K : AV → Bool) : Bool := asB v fun b => fB (Bool.not b) fun r => K (.bool r)
theorem notX_ok {P : Program} {E : Env} {ρ : Ren} {v : AV} {K : AV → Bool} {x : Value} (h1 : den E ρ v = some x) (h : notX v K = true) : ∃ u z, den E ρ u = some z ∧ K u = true ∧ ∀ w, (Op.unary .not x).run P w = .ok z w := by
  replace h := asB_ok h
  obtain ⟨b, rfl, g⟩ := h
  try dsimp only at g
  rw [fB_eq] at g
  simp only [den, Option.some.injEq] at h1
  subst h1
  exact ⟨_, _, rfl, g, fun w => by simp [Op.unary]⟩
noncomputable def negX (v : AV) (K : AV → Bool) : Bool := asI v fun k z => wrI k (Int.neg z) fun r => K (.int k r)
theorem negX_ok {P : Program} {E : Env} {ρ : Ren} {v : AV} {K : AV → Bool} {x : Value} (h1 : den E ρ v = some x) (h : negX v K = true) : ∃ u z, den E ρ u = some z ∧ K u = true ∧ ∀ w, (Op.unary .neg x).run P w = .ok z w := by
  replace h := asI_ok h
  obtain ⟨k, z, rfl, h⟩ := h
  try dsimp only at h
  rw [wrI_eq] at h
  simp only [den, Option.some.injEq] at h1
  subst h1
  exact ⟨_, _, rfl, h, fun w => by simp [Op.unary, Op.intArith]; rfl⟩
def comZ (k : Nat) (z : Int) : Int := (kOf k).wrap ((BitVec.ofInt (kOf k).bits (if (kOf k).signed then -1 else (kOf k).max)) ^^^ (BitVec.ofInt (kOf k).bits z)).toNat
noncomputable def comX (v : AV) (K : AV → Bool) : Bool := asI v fun k z => fI (comZ k z) fun r => K (.int k r)
theorem comX_ok {P : Program} {E : Env} {ρ : Ren} {v : AV} {K : AV → Bool} {x : Value} (h1 : den E ρ v = some x) (h : comX v K = true) : ∃ u z, den E ρ u = some z ∧ K u = true ∧ ∀ w, (Op.unary .xor x).run P w = .ok z w := by
  replace h := asI_ok h
  obtain ⟨k, z, rfl, h⟩ := h
  try dsimp only at h
  rw [fI_eq] at h
  simp only [den, Option.some.injEq] at h1
  subst h1
  exact ⟨_, _, rfl, h, fun w => by simp [Op.unary, Op.intBits, comZ]⟩
noncomputable def cnvX (k : Nat) (v : AV) (K : AV → Bool) : Bool := asI v fun _ z => wrI k z fun r => K (.int k r)
theorem cnvX_ok {P : Program} {E : Env} {ρ : Ren} {k : Nat} {v : AV} {K : AV → Bool} {x : Value} (h1 : den E ρ v = some x) (h : cnvX k v K = true) {src dst : TypeId} (hs : (P.underlying src).isSome = true) (hd : P.underlying dst = some (.int (kOf k))) :
    ∃ u z, den E ρ u = some z ∧ K u = true ∧ ∀ w, (convert src dst x).run P w = .ok z w := by
  replace h := asI_ok h
  obtain ⟨k0, z, rfl, h⟩ := h
  try dsimp only at h
  rw [wrI_eq] at h
  simp only [den, Option.some.injEq] at h1
  subst h1
  obtain ⟨d, hs⟩ := Option.isSome_iff_exists.1 hs
  exact ⟨_, _, rfl, h, fun w => by simp [convert, run_underlying hs, run_underlying hd, Conv.intToInt]⟩

/-! ### Is it nil? -/
noncomputable def nilA (v : AV) (K : Bool → Bool) : Bool := AV.casesOn v false (fun _ _ => false) (fun _ => false) (fun _ => false) (fun _ _ => K false) (fun _ _ _ _ => K false) (fun _ => K false) (K true) (K true) (K true) (K true) (K true) (fun _ _ => K false) (fun _ _ => K false) (fun _ => K false) (fun _ => false) (fun _ => false) (fun _ => false) (fun _ => false)
noncomputable def kindA (v : AV) : Nat := AV.casesOn v 0 (fun _ _ => 0) (fun _ => 0) (fun _ => 0) (fun _ _ => 1) (fun _ _ _ _ => 2) (fun _ => 3) 1 2 3 4 5 (fun _ _ => 5) (fun _ _ => 4) (fun _ => 4) (fun _ => 0) (fun _ => 0) (fun _ => 0) (fun _ => 0)
/-- Which kinds of types may be held against nil: the value of nil. -/
def nilV (P : Program) (t : TypeId) (kd : Nat) : Option Value := match P.underlying t, kd with
  | some (.pointer _), 1 => some (.pointer none) | some (.slice _), 2 => some (.slice none 0 0) | some (.map _ _), 3 => some (.map none) | some (.func _ _ _), 4 => some .nilFunc | some (.interface _), 5 => some .nilIface | _, _ => none
noncomputable def isnX (ne : Bool) (kd : Nat) (v : AV) (K : AV → Bool) : Bool := must (Nat.beq (kindA v) kd) (nilA v fun b => fB (Bool.rec b (Bool.not b) ne) fun r => K (.bool r))
section
variable {P : Program} {t : TypeId} {w : World} {d : Nat}
theorem eqn_ptr {e : TypeId} (hu : P.underlying t = some (.pointer e)) (p : Option Addr) : (Op.equalIn (d + 1) t (.pointer p) (.pointer none)).run P w = .ok p.isNone w := by
  cases p <;> (simp only [Op.equalIn, Sem.run_bind, run_underlying hu, Result.andThen_ok]; rfl)
theorem eqn_sl {e : TypeId} (hu : P.underlying t = some (.slice e)) (p : Option Addr) (n c : Nat) : (Op.equalIn (d + 1) t (.slice p n c) (.slice none 0 0)).run P w = .ok p.isNone w := by
  cases p <;> (simp only [Op.equalIn, Sem.run_bind, run_underlying hu, Result.andThen_ok]; rfl)
theorem eqn_map {e f : TypeId} (hu : P.underlying t = some (.map e f)) (p : Option Nat) : (Op.equalIn (d + 1) t (.map p) (.map none)).run P w = .ok p.isNone w := by
  cases p <;> (simp only [Op.equalIn, Sem.run_bind, run_underlying hu, Result.andThen_ok]; rfl)
theorem eqn_fn0 {a b c} (hu : P.underlying t = some (.func a b c)) : (Op.equalIn (d + 1) t .nilFunc .nilFunc).run P w = .ok true w := by
  simp only [Op.equalIn, Sem.run_bind, run_underlying hu, Result.andThen_ok]; rfl
theorem eqn_fn {a b c} (hu : P.underlying t = some (.func a b c)) (f : Fn) (x y : Array Value) : (Op.equalIn (d + 1) t (.func f x y) .nilFunc).run P w = .ok false w := by
  simp only [Op.equalIn, Sem.run_bind, run_underlying hu, Result.andThen_ok]; rfl
theorem eqn_i0 {m} (hu : P.underlying t = some (.interface m)) : (Op.equalIn (d + 1) t .nilIface .nilIface).run P w = .ok true w := by
  simp only [Op.equalIn, Sem.run_bind, run_underlying hu, Result.andThen_ok]; rfl
theorem eqn_i {m} (hu : P.underlying t = some (.interface m)) (u : TypeId) (x : Value) : (Op.equalIn (d + 1) t (.iface u x) .nilIface).run P w = .ok false w := by
  simp only [Op.equalIn, Sem.run_bind, run_underlying hu, Result.andThen_ok]; rfl
end
theorem isnX_ok {P : Program} {E : Env} {ρ : Ren} {ne : Bool} {kd : Nat} {v : AV} {K : AV → Bool} {x : Value} {t : TypeId} {y : Value} (hn : nilV P t kd = some y) (h1 : den E ρ v = some x) (h : isnX ne kd v K = true) (p : Operand) (c : Value) :
    ∃ u z, den E ρ u = some z ∧ K u = true ∧ ∀ w, ((do eqGuard (bif ne then .neq else .eql) t p (.const c) x y; binOp (bif ne then .neq else .eql) t x y) : Sem Value).run P w = .ok z w := by
  obtain ⟨hk, h2⟩ := must_ok h
  have hk := Nat.eq_of_beq_eq_true hk
  have key : ∀ (b : Bool), fB (Bool.rec b (Bool.not b) ne) (fun r => K (.bool r)) = true → (∀ w, ((do eqGuard (bif ne then .neq else .eql) t p (.const c) x y; binOp (bif ne then .neq else .eql) t x y) : Sem Value).run P w = .ok (.bool (bif ne then !b else b)) w) →
      ∃ u z, den E ρ u = some z ∧ K u = true ∧ ∀ w, ((do eqGuard (bif ne then .neq else .eql) t p (.const c) x y; binOp (bif ne then .neq else .eql) t x y) : Sem Value).run P w = .ok z w := by
    intro b hb hr
    rw [fB_eq] at hb
    refine ⟨_, _, rfl, hb, fun w => ?_⟩
    rw [hr]
    cases ne <;> rfl
  unfold nilV at hn
  split at hn <;> first | (cases hn; done) | skip
  all_goals
    have hu := ‹P.underlying t = some _›
    cases hn
    cases v <;> first | (simp [kindA] at hk; done) | skip
  all_goals
    have ho : ∀ x y : Value, Op.equal t x y = Op.equalIn (9999 + 1) t x y := fun _ _ => rfl
    unfold den at h1
    try split at h1
    all_goals first | (cases h1; done) | skip
    all_goals
      cases h1
      first
        | (refine key true h2 (fun w => ?_); cases ne <;> simp [eqGuard, binOp, ho, eqn_ptr hu, eqn_sl hu, eqn_map hu, eqn_fn0 hu, eqn_i0 hu]; done)
        | (refine key false h2 (fun w => ?_); cases ne <;> simp [eqGuard, binOp, ho, eqn_ptr hu, eqn_sl hu, eqn_map hu, eqn_fn hu, eqn_i hu]; done)
        | (refine key true h2 (fun w => ?_); cases ne <;> simp [eqGuard, binOp, ho, eqn_ptr hu]; done)
        | (refine key false h2 (fun w => ?_); cases ne <;> simp [eqGuard, binOp, ho, eqn_ptr hu]; done)
        | (refine key true h2 (fun w => ?_); cases ne <;> simp [eqGuard, binOp, ho, eqn_sl hu]; done)
        | (refine key false h2 (fun w => ?_); cases ne <;> simp [eqGuard, binOp, ho, eqn_sl hu]; done)
        | (refine key true h2 (fun w => ?_); cases ne <;> simp [eqGuard, binOp, ho, eqn_map hu]; done)
        | (refine key false h2 (fun w => ?_); cases ne <;> simp [eqGuard, binOp, ho, eqn_map hu]; done)
        | (refine key true h2 (fun w => ?_); cases ne <;> simp [eqGuard, binOp, ho, eqn_fn0 hu]; done)
        | (refine key false h2 (fun w => ?_); cases ne <;> simp [eqGuard, binOp, ho, eqn_fn hu]; done)
        | (refine key true h2 (fun w => ?_); cases ne <;> simp [eqGuard, binOp, ho, eqn_i0 hu]; done)
        | (refine key false h2 (fun w => ?_); cases ne <;> simp [eqGuard, binOp, ho, eqn_i hu]; done)
end Go.Sy
