/- The executor: operations as data, held against the program's. No condition: definitions and plain lemmas. -/
import Derived.Test.YtkahniffcehicaaZH
import Derived.Test.YtkahniffcehicaaSeq
namespace Go.Sy
open Go Go.RowKit Go.Eng

/-! ### Literals -/
def isC : AV → Value → Bool
  | .int k z, .int k' z' => decide (kOf k = k') && decide (z = z')
  | .bool a, .bool b => decide (a = b)
  | .str l, .string s => decide (s = ⟨(l.map UInt8.ofNat).toArray⟩)
  | .nilP, .pointer none => true
  | .nilS, .slice none 0 0 => true
  | .nilM, .map none => true
  | .nilF, .nilFunc => true
  | .nilI, .nilIface => true
  | _, _ => false
def isCs : List AV → List Value → Bool
  | [], [] => true
  | v :: l, x :: m => isC v x && isCs l m
  | _, _ => false
def isV : AV → Value → Bool
  | .agg l, .agg a => isCs l a.toList
  | v, x => isC v x
theorem isC_ok {E : Env} {ρ : Ren} {v : AV} {x : Value} (h : isC v x = true) : den E ρ v = some x := by
  unfold isC at h
  split at h <;> first | (cases h; done) | rfl | skip
  · simp only [Bool.and_eq_true, decide_eq_true_eq] at h
    rw [← h.1, ← h.2]; rfl
  · rw [decide_eq_true_eq] at h
    rw [h]; rfl
  · rw [decide_eq_true_eq] at h
    rw [h]; rfl
theorem isCs_ok {E : Env} {ρ : Ren} : ∀ {l : List AV} {m : List Value}, isCs l m = true → denL E ρ l = some m
  | [], [], _ => rfl
  | [], _ :: _, h => by cases h
  | _ :: _, [], h => by cases h
  | v :: l, x :: m, h => by
    simp only [isCs, Bool.and_eq_true] at h
    exact denL_mk (isC_ok h.1) (isCs_ok h.2)
theorem isV_ok {E : Env} {ρ : Ren} {v : AV} {x : Value} (h : isV v x = true) : den E ρ v = some x := by
  unfold isV at h
  split at h
  · simp only [den, isCs_ok h]
  · exact isC_ok h

/-! ### Operands -/
inductive XP | t (n : Nat) | c (v : AV) | f (n : Nat)
noncomputable def nb (v : AV) (K : AV → Bool) : Bool := AV.casesOn v false (fun k z => K (.int k z)) (fun b => K (.bool b)) (fun l => K (.str l)) (fun i o => K (.ptr i o)) (fun i o n c => K (.sl i o n c)) (fun i => K (.map i)) (K .nilP) (K .nilS) (K .nilM) (K .nilF) (K .nilI) (fun t v => K (.iface t v)) (fun f c => K (.fn f c)) (fun i => K (.yl i)) (fun l => K (.agg l)) (fun l => K (.tup l)) (fun i => K (.any i)) (fun s => K (.sy s))
theorem nb_ok {v : AV} {K : AV → Bool} (h : nb v K = true) : v ≠ .bad ∧ K v = true := by
  cases v <;> first | exact ⟨by simp, h⟩ | cases h
noncomputable def ev (S : SL) (p : XP) (K : AV → Bool) : Bool := XP.casesOn p (fun n => nb (getS n S) K) (fun v => K v) (fun f => K (.fn f []))
noncomputable def evL (S : SL) (ps : List XP) : (List AV → Bool) → Bool := List.rec (fun K => K []) (fun p _ ih K => ev S p fun v => ih fun r => K (v :: r)) ps
noncomputable def evO (S : SL) (p : Option XP) (K : Option AV → Bool) : Bool := Option.casesOn p (K none) fun p => ev S p fun v => K (some v)
def opOk : XP → Operand → Bool
  | .t n, .tmp m => Nat.beq n m
  | .c v, .const x => isC v x
  | .f n, .func m => Nat.beq n m
  | _, _ => false
def opsOk : List XP → List Operand → Bool
  | [], [] => true
  | p :: ps, o :: os => opOk p o && opsOk ps os
  | _, _ => false
def opoOk : Option XP → Option Operand → Bool
  | none, none => true
  | some p, some o => opOk p o
  | _, _ => false
structure SR (E : Env) (ρ : Ren) (N : Nat) (S : SL) (a : Act) : Prop where
  size : a.tmps.size = N
  defs : a.defers = []
  at_ : ∀ t, getS t S = .bad ∨ ∃ x, den E ρ (getS t S) = some x ∧ a.tmps.getD t undef = x
section
variable {P : Program} {E : Env} {ρ ρ' : Ren} {N : Nat} {S : SL} {a : Act}
theorem SR.mono (s : SR E ρ N S a) (hl : ρ.Le ρ') : SR E ρ' N S a := ⟨s.size, s.defs, fun t => (s.at_ t).imp id fun ⟨x, h1, h2⟩ => ⟨x, den_mono hl _ _ h1, h2⟩⟩
theorem ev_ok (s : SR E ρ N S a) {p : XP} {o : Operand} {K : AV → Bool} (ho : opOk p o = true) (h : ev S p K = true) : ∃ v x, den E ρ v = some x ∧ a.eval o = x ∧ K v = true := by
  cases p with
  | t n =>
    cases o <;> simp only [opOk] at ho <;> first | (cases ho; done) | skip
    have := Nat.eq_of_beq_eq_true ho
    subst this
    obtain ⟨h1, h2⟩ := nb_ok h
    obtain ⟨x, h3, h4⟩ := (s.at_ n).resolve_left h1
    exact ⟨_, x, h3, h4, h2⟩
  | c v =>
    cases o <;> simp only [opOk] at ho <;> first | (cases ho; done) | skip
    exact ⟨v, _, isC_ok ho, rfl, h⟩
  | f n =>
    cases o <;> simp only [opOk] at ho <;> first | (cases ho; done) | skip
    have := Nat.eq_of_beq_eq_true ho
    subst this
    exact ⟨.fn n [], .func (.func n) #[] #[], by simp [den, denL], rfl, h⟩
theorem evL_ok (s : SR E ρ N S a) : ∀ {ps : List XP} {os : List Operand} {K : List AV → Bool}, opsOk ps os = true → evL S ps K = true → ∃ vs, denL E ρ vs = some (os.map a.eval) ∧ K vs = true ∧ vs.length = os.length
  | [], [], K, _, h => ⟨[], rfl, h, rfl⟩
  | [], _ :: _, K, ho, _ => by cases ho
  | _ :: _, [], K, ho, _ => by cases ho
  | p :: ps, o :: os, K, ho, h => by
    simp only [opsOk, Bool.and_eq_true] at ho
    have h' : ev S p (fun v => evL S ps fun r => K (v :: r)) = true := h
    obtain ⟨v, x, h1, h2, h3⟩ := ev_ok s ho.1 h'
    obtain ⟨vs, h4, h5, h6⟩ := evL_ok s ho.2 h3
    exact ⟨v :: vs, denL_mk (by rw [h1, h2]) h4, h5, by simp [h6]⟩
theorem evO_ok (s : SR E ρ N S a) {p : Option XP} {o : Option Operand} {K : Option AV → Bool} (ho : opoOk p o = true) (h : evO S p K = true) : ∃ v, denO E ρ v (o.map a.eval) ∧ K v = true := by
  cases p with
  | none =>
    cases o <;> simp only [opoOk] at ho <;> first | (cases ho; done) | skip
    exact ⟨none, .inl ⟨rfl, rfl⟩, h⟩
  | some p =>
    cases o <;> simp only [opoOk] at ho <;> first | (cases ho; done) | skip
    rename_i o
    obtain ⟨v, x, h1, h2, h3⟩ := ev_ok (p := p) s ho h
    exact ⟨some v, .inr ⟨v, x, rfl, by simp [h2], h1⟩, h3⟩
noncomputable def putS (d : Option Nat) (v : AV) (S : SL) : SL := Option.casesOn d S fun d => .cons d v S
theorem SR.put (s : SR E ρ N S a) {d : Option Nat} {v : AV} {z : Value} (hd : ∀ t, d = some t → t < N) (hv : v = .bad ∨ den E ρ v = some z) : SR E ρ N (putS d v S) (a.put d z) := by
  cases d with
  | none => exact s
  | some d =>
    have hlt := hd d rfl
    refine ⟨by simpa [Act.put] using s.size, s.defs, fun t => ?_⟩
    show getS t (.cons d v S) = .bad ∨ ∃ x, den E ρ (getS t (.cons d v S)) = some x ∧ _
    by_cases e : d = t
    · subst e
      rw [getS_self]
      refine hv.imp id fun h => ⟨z, h, ?_⟩
      simp [Act.put, Array.getD, s.size, hlt]
    · rw [getS_ne _ _ e]
      refine (s.at_ t).imp id fun ⟨x, h1, h2⟩ => ⟨x, h1, ?_⟩
      rw [← h2]
      exact Go.Eng.getD_put (fun q => e q.symm)
end

/-! ### Types, as tests -/
def isSlT (P : Program) (t e : Nat) : Bool := match P.underlying t with | some (.slice e') => Nat.beq e' e | _ => false
def isArT (P : Program) (t n e : Nat) : Bool := match P.underlying t with | some (.array n' e') => Nat.beq n' n && Nat.beq e' e | _ => false
def isMpT (P : Program) (t k e : Nat) : Bool := match P.underlying t with | some (.map k' e') => Nat.beq k' k && Nat.beq e' e | _ => false
def isStT (P : Program) (t : Nat) : Bool := match P.underlying t with | some .string => true | _ => false
def isInT (P : Program) (t k : Nat) : Bool := match P.underlying t with | some (.int k') => decide (k' = kOf k) | _ => false
def elT (P : Program) (t : Nat) : Nat := match P.underlying t with | some (.slice e) => e | some (.array _ e) => e | some (.map _ e) => e | _ => 0
def keT (P : Program) (t : Nat) : Nat := match P.underlying t with | some (.map k _) => k | _ => 0
def arN (P : Program) (t : Nat) : Nat := match P.underlying t with | some (.array n _) => n | _ => 0
theorem isSlT_ok {P : Program} {t e : Nat} (h : isSlT P t e = true) : P.underlying t = some (.slice e) := by
  unfold isSlT at h
  split at h
  · rename_i h1; rw [h1, Nat.eq_of_beq_eq_true h]
  · cases h
theorem isArT_ok {P : Program} {t n e : Nat} (h : isArT P t n e = true) : P.underlying t = some (.array n e) := by
  unfold isArT at h
  split at h
  · rename_i h1
    simp only [Bool.and_eq_true] at h
    rw [h1, Nat.eq_of_beq_eq_true h.1, Nat.eq_of_beq_eq_true h.2]
  · cases h
theorem isMpT_ok {P : Program} {t k e : Nat} (h : isMpT P t k e = true) : P.underlying t = some (.map k e) := by
  unfold isMpT at h
  split at h
  · rename_i h1
    simp only [Bool.and_eq_true] at h
    rw [h1, Nat.eq_of_beq_eq_true h.1, Nat.eq_of_beq_eq_true h.2]
  · cases h
theorem isStT_ok {P : Program} {t : Nat} (h : isStT P t = true) : P.underlying t = some .string := by
  unfold isStT at h
  split at h
  · assumption
  · cases h
theorem isInT_ok {P : Program} {t k : Nat} (h : isInT P t k = true) : P.underlying t = some (.int (kOf k)) := by
  unfold isInT at h
  split at h
  · rename_i h1
    rw [decide_eq_true_eq] at h
    rw [h1, h]
  · cases h
def zeroIs (P : Program) (T : Nat) (z : List AV) : Bool := match zeroC P T with | some zs => isCs z zs.toList | none => false
theorem zeroIs_ok {P : Program} {T : Nat} {z : List AV} {E : Env} {ρ : Ren} (h : zeroIs P T z = true) : ∃ zs, zeroC P T = some zs ∧ denL E ρ z = some zs.toList := by
  unfold zeroIs at h
  split at h
  · rename_i zs h1
    exact ⟨zs, h1, isCs_ok h⟩
  · cases h
def zerosIs (P : Program) (Ty sz len : Nat) (z : List AV) : Bool := match zerosOk P Ty sz len with | some zs => isCs z zs | none => false
theorem zerosIs_ok {P : Program} {Ty sz len : Nat} {z : List AV} {E : Env} {ρ : Ren} (h : zerosIs P Ty sz len z = true) : ∃ zs, zerosOk P Ty sz len = some zs ∧ denL E ρ z = some zs := by
  unfold zerosIs at h
  split at h
  · rename_i zs h1
    exact ⟨zs, h1, isCs_ok h⟩
  · cases h
def zvIs (P : Program) (e : Nat) (v : AV) : Bool := match (P.info? e).bind (·.zero) with | some z => isV v z | none => false
theorem zvIs_ok {P : Program} {e : Nat} {v : AV} {E : Env} {ρ : Ren} (h : zvIs P e v = true) : ∃ z, (∀ w, (zeroValue e : Sem Value).run P w = .ok z w) ∧ den E ρ v = some z := by
  unfold zvIs at h
  split at h
  · rename_i z h1
    refine ⟨z, fun w => ?_, isV_ok h⟩
    rcases hi : P.info? e with _ | i
    · simp [hi] at h1
    · simp only [hi, Option.bind_some] at h1
      simp [zeroValue, typeInfo, hi, h1]
  · cases h
end Go.Sy
