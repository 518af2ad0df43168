/- An executor for closed runs: its values, its memory, and what they stand for. No condition: definitions and plain lemmas. -/
import Derived.Test.YtkahniffcehicaaEqu
namespace Go.Sy
open Go Go.RowKit Go.Eng

/-- The surroundings: atoms, and the ghost memory. -/
structure Env where
  at_ : Nat → Value
  M : Mem
instance : CoeFun Env (fun _ => Nat → Value) := ⟨Env.at_⟩
noncomputable def prB (p : Prop) : Bool := @decide p (Classical.propDecidable p)
theorem prB_true {p : Prop} : prB p = true ↔ p := by simp [prB]
theorem prB_false {p : Prop} : prB p = false ↔ ¬ p := by simp [prB]
theorem prB_dec (p : Prop) [Decidable p] : prB p = decide p := by
  rw [Bool.eq_iff_iff, prB_true, decide_eq_true_eq]
theorem prB_bool (b : Bool) : prB (b = true) = b := by cases b <;> simp [prB]

/-- Values that name no block of the call's own: literal ones, and ones that stand for terms. -/
inductive PL : Type 1
  | int (k : Nat) (z : Int) | bool (b : Bool) | str (l : List Nat) | nilP | nilS | nilM | nilF | nilI
  | sint (k : Nat) (z : Int) | sbool (p : Prop) | sstr (l : List UInt8)
  | imm (h : Value) (sz : Nat) (α : Type) (l : List α) (enc : α → List PL)
inductive SY : Type 1
  | int (k : Nat) (z : Int) | bool (p : Prop) | str (l : List UInt8) | imm (h : Value) (sz : Nat) (α : Type) (l : List α) (enc : α → List PL)
  | pim (b o : Nat) (cs : List PL) | prow (i n : Nat) | psub (i sz a n : Nat) | rptr (i sz e o : Nat) | pfix (i n c : Nat)
inductive ACap | ex (n : Nat) | rest (k : Nat)
inductive AV : Type 1
  | bad
  | int (k : Nat) (z : Int) | bool (b : Bool) | str (l : List Nat) | ptr (i o : Nat) | sl (i o n : Nat) (c : ACap) | map (i : Nat)
  | nilP | nilS | nilM | nilF | nilI | iface (t : Nat) (v : AV) | fn (f : Nat) (c : List AV) | yl (i : Nat)
  | agg (l : List AV) | tup (l : List AV) | any (i : Nat) | sy (s : SY)

def kOf : Nat → IntKind
  | 0 => .i64 | 1 => .u8 | 2 => .u16 | 3 => .u32 | 4 => .u64 | 5 => .i32 | 6 => .i16 | _ => .i8

noncomputable def valP : PL → Value
  | .int k z => .int (kOf k) z
  | .bool b => .bool b
  | .str l => S (l.map UInt8.ofNat)
  | .nilP => .pointer none
  | .nilS => .slice none 0 0
  | .nilM => .map none
  | .nilF => .nilFunc
  | .nilI => .nilIface
  | .sint k z => .int (kOf k) z
  | .sbool p => .bool (prB p)
  | .sstr l => S l
  | .imm h _ _ _ _ => h
/-- What it names lies in ghost memory. -/
inductive OkP (M : Mem) : PL → Prop
  | int (k : Nat) (z : Int) : OkP M (.int k z)
  | bool (b : Bool) : OkP M (.bool b)
  | str (l : List Nat) : OkP M (.str l)
  | nilP : OkP M .nilP
  | nilS : OkP M .nilS
  | nilM : OkP M .nilM
  | nilF : OkP M .nilF
  | nilI : OkP M .nilI
  | sint (k : Nat) (z : Int) : OkP M (.sint k z)
  | sbool (p : Prop) : OkP M (.sbool p)
  | sstr (l : List UInt8) : OkP M (.sstr l)
  | imm {h : Value} {sz : Nat} {α : Type} {l : List α} {enc : α → List PL} (ao : Option Addr) (cap : Nat) (hh : h = .slice ao l.length cap) (h1 : l.length ≤ cap) (h2 : cap ≤ maxLen) (h3 : 0 < sz)
      (ha : 0 < l.length → ao = some ⟨blk ao, ofs ao, none⟩) (hl : ∀ x ∈ l, (enc x).length = sz) (ho : ∀ x ∈ l, ∀ p ∈ enc x, OkP M p)
      (hr : ∀ i x, l[i]? = some x → MRow M (blk ao) (ofs ao + i * sz) ((enc x).map valP)) : OkP M (.imm h sz α l enc)
def MLe (M M' : Mem) : Prop := ∀ b o, M b = some o → M' b = some o
theorem MLe.refl (M : Mem) : MLe M M := fun _ _ h => h
theorem MLe.trans {a b c : Mem} (h : MLe a b) (k : MLe b c) : MLe a c := fun x o e => k x o (h x o e)
theorem mcell_le {M M' : Mem} (h : MLe M M') {b o : Nat} {v : Value} (hm : mcell M b o = some v) : mcell M' b o = some v := by
  unfold mcell at hm ⊢
  rcases e : M b with _ | ob
  · simp [e] at hm
  · rw [h b ob e]; rw [e] at hm; exact hm
theorem MRow.le {M M' : Mem} (h : MLe M M') {b o : Nat} {cs : List Value} (hm : MRow M b o cs) : MRow M' b o cs := fun j v hv => mcell_le h (hm j v hv)
theorem OkP.mono {M M' : Mem} (h : MLe M M') {p : PL} (hp : OkP M p) : OkP M' p := by
  induction hp with
  | imm ao cap hh h1 h2 h3 ha hl ho hr ih => exact .imm ao cap hh h1 h2 h3 ha hl ih (fun i x hx => MRow.le h (hr i x hx))
  | int k z => exact .int k z
  | bool b => exact .bool b
  | str l => exact .str l
  | nilP => exact .nilP
  | nilS => exact .nilS
  | nilM => exact .nilM
  | nilF => exact .nilF
  | nilI => exact .nilI
  | sint k z => exact .sint k z
  | sbool p => exact .sbool p
  | sstr l => exact .sstr l
open Classical in
noncomputable def denP (E : Env) (p : PL) : Option Value := if OkP E.M p then some (valP p) else none
open Classical in
noncomputable def denPs (E : Env) (ps : List PL) : Option (List Value) := if ∀ p ∈ ps, OkP E.M p then some (ps.map valP) else none
theorem denP_some {E : Env} {p : PL} {x : Value} (h : denP E p = some x) : OkP E.M p ∧ x = valP p := by
  unfold denP at h
  split at h
  · exact ⟨‹_›, (Option.some.inj h).symm⟩
  · cases h
theorem denP_mk {E : Env} {p : PL} (h : OkP E.M p) : denP E p = some (valP p) := by simp [denP, h]
theorem denPs_some {E : Env} {ps : List PL} {xs : List Value} (h : denPs E ps = some xs) : (∀ p ∈ ps, OkP E.M p) ∧ xs = ps.map valP := by
  unfold denPs at h
  split at h
  · exact ⟨‹_›, (Option.some.inj h).symm⟩
  · cases h
theorem denPs_mk {E : Env} {ps : List PL} (h : ∀ p ∈ ps, OkP E.M p) : denPs E ps = some (ps.map valP) := by unfold denPs; rw [if_pos h]

structure REnt where
  b : Nat
  cap : Nat
abbrev Ren := Nat → Option REnt
def Ren.Le (ρ ρ' : Ren) : Prop := ∀ i e, ρ i = some e → ρ' i = some e
theorem Ren.Le.refl (ρ : Ren) : ρ.Le ρ := fun _ _ h => h
theorem Ren.Le.trans {a b c : Ren} (h : a.Le b) (k : b.Le c) : a.Le c := fun i e he => k i e (h i e he)
def Ren.set (ρ : Ren) (i : Nat) (e : REnt) : Ren := fun j => if j = i then some e else ρ j
theorem Ren.le_set {ρ : Ren} {i : Nat} (e : REnt) (h : ρ i = none) : ρ.Le (ρ.set i e) := by
  intro j f hj
  unfold Ren.set
  split
  · rename_i hji; subst hji; rw [h] at hj; cases hj
  · exact hj
theorem Ren.set_self (ρ : Ren) (i : Nat) (e : REnt) : ρ.set i e i = some e := by simp [Ren.set]
theorem Ren.set_ne {ρ : Ren} {i j : Nat} (e : REnt) (h : j ≠ i) : ρ.set i e j = ρ j := by simp [Ren.set, h]

def capOf (e : REnt) : ACap → Nat
  | .ex n => n
  | .rest k => e.cap - k

/-- The header of a row that may have no block (capacity 0), or has one more than its capacity says. -/
def hdrP (e : REnt) (n : Nat) : Option Value := match e.cap with
  | 0 => if n = 0 then some (.slice none 0 0) else none
  | c + 1 => some (.slice (some ⟨e.b, 0, none⟩) n c)
def hdrF (e : REnt) (n c : Nat) : Option Value := match e.cap with
  | 0 => if n = 0 ∧ c = 0 then some (.slice none 0 0) else none
  | _ + 1 => some (.slice (some ⟨e.b, 0, none⟩) n c)
def hdrS (e : REnt) (sz a n : Nat) : Option Value := match e.cap with
  | 0 => if n = 0 ∧ a = 0 then some (.slice none 0 0) else none
  | c + 1 => if a + n ≤ c then some (.slice (some ⟨e.b, if c = a then 0 else a * sz, none⟩) n (c - a)) else none
open Classical in
noncomputable def denS (E : Env) (ρ : Ren) : SY → Option Value
  | .int k z => some (.int (kOf k) z)
  | .bool p => some (.bool (prB p))
  | .str l => some (S l)
  | .imm h sz α l enc => denP E (.imm h sz α l enc)
  | .pim b o cs => if (∀ p ∈ cs, OkP E.M p) ∧ MRow E.M b o (cs.map valP) then some (.pointer (some ⟨b, o, none⟩)) else none
  | .prow i n => match ρ i with | some e => hdrP e n | none => none
  | .psub i sz a n => match ρ i with | some e => hdrS e sz a n | none => none
  | .pfix i n c => match ρ i with | some e => hdrF e n c | none => none
  | .rptr i sz q o => match ρ i with | some e => some (.pointer (some ⟨e.b, q * sz + o, none⟩)) | none => none
mutual
noncomputable def den (E : Env) (ρ : Ren) : AV → Option Value
  | .bad => none
  | .int k z => some (.int (kOf k) z)
  | .bool b => some (.bool b)
  | .str l => some (S (l.map UInt8.ofNat))
  | .ptr i o => match ρ i with | some e => some (.pointer (some ⟨e.b, o, none⟩)) | none => none
  | .sl i o n c => match ρ i with | some e => some (.slice (some ⟨e.b, o, none⟩) n (capOf e c)) | none => none
  | .map i => match ρ i with | some e => some (.map (some e.b)) | none => none
  | .nilP => some (.pointer none)
  | .nilS => some (.slice none 0 0)
  | .nilM => some (.map none)
  | .nilF => some .nilFunc
  | .nilI => some .nilIface
  | .iface t v => match den E ρ v with | some x => some (.iface t x) | none => none
  | .fn f c => match denL E ρ c with | some cs => some (.func (.func f) #[] cs.toArray) | none => none
  | .yl i => match ρ i with | some e => some (.func (.yield e.b) #[] #[]) | none => none
  | .agg l => match denL E ρ l with | some cs => some (.agg cs.toArray) | none => none
  | .tup l => match denL E ρ l with | some cs => some (.tuple cs.toArray) | none => none
  | .any i => match ρ i with | some _ => some (E i) | none => none
  | .sy s => denS E ρ s
noncomputable def denL (E : Env) (ρ : Ren) : List AV → Option (List Value)
  | [] => some []
  | v :: r => match den E ρ v with
    | some x => match denL E ρ r with
      | some xs => some (x :: xs)
      | none => none
    | none => none
end

section
variable {E : Env} {ρ ρ' : Ren}
theorem denL_cons {v : AV} {r : List AV} {ys : List Value} (h : denL E ρ (v :: r) = some ys) : ∃ x xs, den E ρ v = some x ∧ denL E ρ r = some xs ∧ ys = x :: xs := by
  unfold denL at h
  split at h
  · rename_i x hx
    split at h
    · rename_i xs hxs
      exact ⟨x, xs, hx, hxs, (Option.some.inj h).symm⟩
    · cases h
  · cases h
theorem denL_mk {v : AV} {r : List AV} {x : Value} {xs : List Value} (h1 : den E ρ v = some x) (h2 : denL E ρ r = some xs) : denL E ρ (v :: r) = some (x :: xs) := by
  simp [denL, h1, h2]
theorem denS_mono (hl : ρ.Le ρ') : ∀ (s : SY) (x : Value), denS E ρ s = some x → denS E ρ' s = some x
  | .int k z, x, h => h
  | .bool p, x, h => h
  | .str l, x, h => h
  | .imm .., x, h => h
  | .pim .., x, h => h
  | .prow i n, x, h => by
    simp only [denS] at h ⊢
    rcases e : ρ i with _ | e'
    · rw [e] at h; cases h
    · rw [e] at h; rw [hl i e' e]; exact h
  | .psub i sz a n, x, h => by
    simp only [denS] at h ⊢
    rcases e : ρ i with _ | e'
    · rw [e] at h; cases h
    · rw [e] at h; rw [hl i e' e]; exact h
  | .pfix i n c, x, h => by
    simp only [denS] at h ⊢
    rcases e : ρ i with _ | e'
    · rw [e] at h; cases h
    · rw [e] at h; rw [hl i e' e]; exact h
  | .rptr i sz q o, x, h => by
    simp only [denS] at h ⊢
    rcases e : ρ i with _ | e'
    · rw [e] at h; cases h
    · rw [e] at h; rw [hl i e' e]; exact h
mutual
theorem den_mono (hl : ρ.Le ρ') : ∀ (v : AV) (x : Value), den E ρ v = some x → den E ρ' v = some x
  | .bad, x, h => by simp [den] at h
  | .int k z, x, h => by simpa [den] using h
  | .bool b, x, h => by simpa [den] using h
  | .str l, x, h => by simpa [den] using h
  | .nilP, x, h => by simpa [den] using h
  | .nilS, x, h => by simpa [den] using h
  | .nilM, x, h => by simpa [den] using h
  | .nilF, x, h => by simpa [den] using h
  | .nilI, x, h => by simpa [den] using h
  | .ptr i o, x, h => by
    unfold den at h ⊢
    rcases e : ρ i with _ | e'
    · rw [e] at h; cases h
    · rw [e] at h; rw [hl i e' e]; exact h
  | .sl i o n c, x, h => by
    unfold den at h ⊢
    rcases e : ρ i with _ | e'
    · rw [e] at h; cases h
    · rw [e] at h; rw [hl i e' e]; exact h
  | .map i, x, h => by
    unfold den at h ⊢
    rcases e : ρ i with _ | e'
    · rw [e] at h; cases h
    · rw [e] at h; rw [hl i e' e]; exact h
  | .yl i, x, h => by
    unfold den at h ⊢
    rcases e : ρ i with _ | e'
    · rw [e] at h; cases h
    · rw [e] at h; rw [hl i e' e]; exact h
  | .any i, x, h => by
    unfold den at h ⊢
    rcases e : ρ i with _ | e'
    · rw [e] at h; cases h
    · rw [e] at h; rw [hl i e' e]; exact h
  | .sy s, x, h => by
    unfold den at h ⊢
    exact denS_mono hl s x h
  | .iface t v, x, h => by
    unfold den at h ⊢
    rcases e : den E ρ v with _ | y
    · rw [e] at h; cases h
    · rw [e] at h; rw [den_mono hl v y e]; exact h
  | .fn f c, x, h => by
    unfold den at h ⊢
    rcases e : denL E ρ c with _ | y
    · rw [e] at h; cases h
    · rw [e] at h; rw [denL_mono hl c y e]; exact h
  | .agg c, x, h => by
    unfold den at h ⊢
    rcases e : denL E ρ c with _ | y
    · rw [e] at h; cases h
    · rw [e] at h; rw [denL_mono hl c y e]; exact h
  | .tup c, x, h => by
    unfold den at h ⊢
    rcases e : denL E ρ c with _ | y
    · rw [e] at h; cases h
    · rw [e] at h; rw [denL_mono hl c y e]; exact h
theorem denL_mono (hl : ρ.Le ρ') : ∀ (l : List AV) (xs : List Value), denL E ρ l = some xs → denL E ρ' l = some xs
  | [], xs, h => by simpa [denL] using h
  | v :: r, xs, h => by
    obtain ⟨x, ys, h1, h2, rfl⟩ := denL_cons h
    exact denL_mk (den_mono hl v x h1) (denL_mono hl r ys h2)
end
/-- Two surroundings: the atoms agree where they are known, ghost memory may have grown. -/
structure EEq (ρ : Ren) (E E' : Env) : Prop where
  at_ : ∀ i e, ρ i = some e → E' i = E i
  mem : MLe E.M E'.M
theorem denP_env {E' : Env} (hE : MLe E.M E'.M) {p : PL} {x : Value} (h : denP E p = some x) : denP E' p = some x := by
  obtain ⟨h1, rfl⟩ := denP_some h
  exact denP_mk (h1.mono hE)
theorem denPs_env {E' : Env} (hE : MLe E.M E'.M) {ps : List PL} {xs : List Value} (h : denPs E ps = some xs) : denPs E' ps = some xs := by
  obtain ⟨h1, rfl⟩ := denPs_some h
  exact denPs_mk fun p hp => (h1 p hp).mono hE
theorem denS_env {E' : Env} (hE : MLe E.M E'.M) : ∀ (s : SY) (x : Value), denS E ρ s = some x → denS E' ρ s = some x
  | .int k z, x, h => h
  | .bool p, x, h => h
  | .str l, x, h => h
  | .imm .., x, h => denP_env hE h
  | .pim b o cs, x, h => by
    simp only [denS] at h ⊢
    split at h
    · rename_i hc
      rw [if_pos ⟨fun p hp => (hc.1 p hp).mono hE, MRow.le hE hc.2⟩]; exact h
    · cases h
  | .prow i n, x, h => h
  | .psub .., x, h => h
  | .rptr .., x, h => h
  | .pfix .., x, h => h
mutual
theorem den_env {E' : Env} (hE : EEq ρ E E') : ∀ (v : AV) (x : Value), den E ρ v = some x → den E' ρ v = some x
  | .bad, _, h => by simp [den] at h
  | .int _ _, _, h | .bool _, _, h | .str _, _, h | .nilP, _, h | .nilS, _, h | .nilM, _, h | .nilF, _, h | .nilI, _, h | .ptr _ _, _, h | .sl _ _ _ _, _, h | .map _, _, h | .yl _, _, h => by simpa [den] using h
  | .any i, x, h => by
    unfold den at h ⊢
    rcases e : ρ i with _ | e'
    · rw [e] at h; cases h
    · rw [e] at h; rw [hE.at_ i e' e]; exact h
  | .sy s, x, h => by
    unfold den at h ⊢
    exact denS_env hE.mem s x h
  | .iface t v, x, h => by
    unfold den at h ⊢
    rcases e : den E ρ v with _ | y
    · rw [e] at h; cases h
    · rw [e] at h; rw [den_env hE v y e]; exact h
  | .fn f c, x, h => by
    unfold den at h ⊢
    rcases e : denL E ρ c with _ | y
    · rw [e] at h; cases h
    · rw [e] at h; rw [denL_env hE c y e]; exact h
  | .agg c, x, h => by
    unfold den at h ⊢
    rcases e : denL E ρ c with _ | y
    · rw [e] at h; cases h
    · rw [e] at h; rw [denL_env hE c y e]; exact h
  | .tup c, x, h => by
    unfold den at h ⊢
    rcases e : denL E ρ c with _ | y
    · rw [e] at h; cases h
    · rw [e] at h; rw [denL_env hE c y e]; exact h
theorem denL_env {E' : Env} (hE : EEq ρ E E') : ∀ (l : List AV) (xs : List Value), denL E ρ l = some xs → denL E' ρ l = some xs
  | [], xs, h => by simpa [denL] using h
  | v :: r, xs, h => by
    obtain ⟨x, ys, h1, h2, rfl⟩ := denL_cons h
    exact denL_mk (den_env hE v x h1) (denL_env hE r ys h2)
end
theorem denL_len : ∀ {l : List AV} {xs : List Value}, denL E ρ l = some xs → xs.length = l.length
  | [], xs, h => by simp [denL] at h; subst h; rfl
  | v :: r, xs, h => by
    obtain ⟨x, ys, h1, h2, rfl⟩ := denL_cons h
    simp [denL_len h2]
theorem denL_app : ∀ {l m : List AV} {xs ys : List Value}, denL E ρ l = some xs → denL E ρ m = some ys → denL E ρ (l ++ m) = some (xs ++ ys)
  | [], m, xs, ys, h, h2 => by simp [denL] at h; subst h; simpa using h2
  | v :: r, m, xs, ys, h, h2 => by
    obtain ⟨x, zs, h3, h4, rfl⟩ := denL_cons h
    exact denL_mk h3 (denL_app h4 h2)
theorem denL_split : ∀ {l m : List AV} {zs : List Value}, denL E ρ (l ++ m) = some zs → ∃ xs ys, denL E ρ l = some xs ∧ denL E ρ m = some ys ∧ zs = xs ++ ys
  | [], m, zs, h => ⟨[], zs, by simp [denL], by simpa using h, by simp⟩
  | v :: r, m, zs, h => by
    obtain ⟨x, ws, h3, h4, rfl⟩ := denL_cons (r := r ++ m) h
    obtain ⟨xs, ys, h5, h6, rfl⟩ := denL_split h4
    exact ⟨x :: xs, ys, denL_mk h3 h5, h6, rfl⟩
theorem denL_at : ∀ {l : List AV} {xs : List Value} {i : Nat} {v : AV}, denL E ρ l = some xs → l[i]? = some v → ∃ x, den E ρ v = some x ∧ xs[i]? = some x
  | [], xs, i, v, h, hi => by simp at hi
  | u :: r, xs, 0, v, h, hi => by
    obtain ⟨x, ys, h1, h2, rfl⟩ := denL_cons h
    simp at hi; subst hi
    exact ⟨x, h1, rfl⟩
  | u :: r, xs, i + 1, v, h, hi => by
    obtain ⟨x, ys, h1, h2, rfl⟩ := denL_cons h
    obtain ⟨y, h3, h4⟩ := denL_at h2 (by simpa using hi)
    exact ⟨y, h3, by simpa using h4⟩
theorem denL_take {l : List AV} {xs : List Value} (n : Nat) (h : denL E ρ l = some xs) : denL E ρ (l.take n) = some (xs.take n) := by
  have h' := h
  rw [← List.take_append_drop n l] at h'
  obtain ⟨a, b, h1, h2, rfl⟩ := denL_split h'
  have := denL_len h1
  have h3 := denL_len h
  rw [h1]
  by_cases hn : n ≤ l.length
  · rw [List.length_take, Nat.min_eq_left hn] at this
    rw [List.take_left' this]
  · rw [List.drop_eq_nil_of_le (by omega)] at h2
    simp [denL] at h2
    subst h2
    simp only [List.append_nil] at h3 ⊢
    rw [List.take_of_length_le (by omega)]
theorem denL_drop {l : List AV} {xs : List Value} (n : Nat) (h : denL E ρ l = some xs) : denL E ρ (l.drop n) = some (xs.drop n) := by
  have h' := h
  rw [← List.take_append_drop n l] at h'
  obtain ⟨a, b, h1, h2, rfl⟩ := denL_split h'
  have := denL_len h1
  have h3 := denL_len h
  rw [h2]
  by_cases hn : n ≤ l.length
  · rw [List.length_take, Nat.min_eq_left hn] at this
    rw [List.drop_left' this]
  · have h4 : b = [] := by
      rw [List.drop_eq_nil_of_le (by omega)] at h2
      simpa [denL] using h2.symm
    subst h4
    simp only [List.append_nil] at h3 ⊢
    rw [List.drop_eq_nil_of_le (by omega)]
end

/-! ### Objects -/
inductive AObj : Type 1
  | blk (grow : Bool) (T sz : Nat) (els : List (List AV))
  | map (es : List (AV × AV × Nat)) (clock : Nat)
  | iter (m : Option Nat) (since : Nat) (seen : List Nat) (stepped : Nat)
  | defs
  | prow (T sz : Nat) (α : Type) (l : List α) (enc : α → List PL)

noncomputable def denE (E : Env) (ρ : Ren) : List (AV × AV × Nat) → Option (List MapEntry)
  | [] => some []
  | (k, v, b) :: r => match den E ρ k, den E ρ v, denE E ρ r with
    | some x, some y, some es => some (⟨x, y, b⟩ :: es)
    | _, _, _ => none

def ORel (E : Env) (ρ : Ren) (e : REnt) : AObj → Obj → Prop
  | .blk g T sz els, o => (∀ l ∈ els, l.length = sz) ∧ 0 < sz ∧ ∃ arr xs, o = .cells arr T (0, 0) ∧ denL E ρ els.flatten = some xs ∧
      (bif g then arr.size = e.cap * sz ∧ arr.toList.take (els.length * sz) = xs ∧ els.length ≤ e.cap ∧ e.cap ≤ maxLen else arr.toList = xs)
  | .map es cl, o => ∃ ms, denE E ρ es = some ms ∧ o = .map ms.toArray cl
  | .iter m since seen stepped, o => ∃ mb, (match m with | none => mb = none | some i => ∃ f, ρ i = some f ∧ mb = some f.b) ∧ o = .mapIter mb since seen.toArray stepped
  | .defs, o => o = .deferred (some [])
  | .prow T sz α l enc, o => ∃ arr xs, o = .cells arr T (0, 0) ∧ 0 < sz ∧ (∀ x ∈ l, (enc x).length = sz) ∧ denPs E (l.flatMap enc) = some xs ∧ arr.size = (e.cap - 1) * sz ∧ arr.toList.take (l.length * sz) = xs ∧ l.length ≤ e.cap - 1 ∧ e.cap - 1 ≤ maxLen
/-- Has it a block? -/
def hasB (e : REnt) : AObj → Bool
  | .prow .. => !Nat.beq e.cap 0
  | _ => true
def NilO : AObj → Prop
  | .prow _ sz _ l _ => l = [] ∧ 0 < sz
  | _ => False
theorem denE_env {E E' : Env} {ρ : Ren} (hE : EEq ρ E E') : ∀ (es : List (AV × AV × Nat)) (ms : List MapEntry), denE E ρ es = some ms → denE E' ρ es = some ms
  | [], ms, h => by simpa [denE] using h
  | (k, v, b) :: r, ms, h => by
    unfold denE at h ⊢
    rcases h1 : den E ρ k with _ | x
    · simp [h1] at h
    rcases h2 : den E ρ v with _ | y
    · simp [h1, h2] at h
    rcases h3 : denE E ρ r with _ | zs
    · simp [h1, h2, h3] at h
    rw [den_env hE k x h1, den_env hE v y h2, denE_env hE r zs h3]
    rw [h1, h2, h3] at h
    exact h
theorem ORel.env {E E' : Env} {ρ : Ren} (hE : EEq ρ E E') {e : REnt} : ∀ {o : AObj} {ob : Obj}, ORel E ρ e o ob → ORel E' ρ e o ob
  | .blk g T sz els, ob, ⟨h0, h1, arr, xs, h2, h3, h4⟩ => ⟨h0, h1, arr, xs, h2, denL_env hE _ _ h3, h4⟩
  | .map es cl, ob, ⟨ms, h1, h2⟩ => ⟨ms, denE_env hE _ _ h1, h2⟩
  | .iter none since seen stepped, ob, h => h
  | .iter (some i) since seen stepped, ob, h => h
  | .defs, ob, h => h
  | .prow T sz α l enc, ob, ⟨arr, xs, h1, h2, h3, h4, h5⟩ => ⟨arr, xs, h1, h2, h3, denPs_env hE.mem h4, h5⟩
theorem denE_mono {E : Env} {ρ ρ' : Ren} (hl : ρ.Le ρ') : ∀ (es : List (AV × AV × Nat)) (ms : List MapEntry), denE E ρ es = some ms → denE E ρ' es = some ms
  | [], ms, h => by simpa [denE] using h
  | (k, v, b) :: r, ms, h => by
    unfold denE at h ⊢
    rcases h1 : den E ρ k with _ | x
    · simp [h1] at h
    rcases h2 : den E ρ v with _ | y
    · simp [h1, h2] at h
    rcases h3 : denE E ρ r with _ | zs
    · simp [h1, h2, h3] at h
    rw [den_mono hl k x h1, den_mono hl v y h2, denE_mono hl r zs h3]
    rw [h1, h2, h3] at h
    exact h
theorem ORel.mono {E : Env} {ρ ρ' : Ren} (hl : ρ.Le ρ') {e : REnt} : ∀ {o : AObj} {ob : Obj}, ORel E ρ e o ob → ORel E ρ' e o ob
  | .blk g T sz els, ob, ⟨h0, h1, arr, xs, h2, h3, h4⟩ => ⟨h0, h1, arr, xs, h2, denL_mono hl _ _ h3, h4⟩
  | .map es cl, ob, ⟨ms, h1, h2⟩ => ⟨ms, denE_mono hl _ _ h1, h2⟩
  | .iter none since seen stepped, ob, h => h
  | .iter (some i) since seen stepped, ob, ⟨mb, ⟨f, h1, h3⟩, h2⟩ => ⟨mb, ⟨f, hl _ _ h1, h3⟩, h2⟩
  | .defs, ob, h => h
  | .prow T sz α l enc, ob, h => h

/-! ### The memory: a tree by numbers -/
inductive T : Type 1
  | leaf
  | node (l : T) (v : Option AObj) (r : T)
noncomputable def T.get (t : T) : Nat → Option AObj :=
  T.rec (fun _ => none) (fun _ v _ gl gr n => Nat.rec v (fun m _ => Bool.rec (gr (Nat.div m 2)) (gl (Nat.div m 2)) (Nat.beq (Nat.mod m 2) 0)) n) t
theorem T.get_leaf (n : Nat) : T.leaf.get n = none := rfl
theorem T.get_zero (l : T) (v : Option AObj) (r : T) : (T.node l v r).get 0 = v := rfl
theorem T.get_even (l : T) (v : Option AObj) (r : T) (m : Nat) (h : m % 2 = 0) : (T.node l v r).get (m + 1) = l.get (m / 2) := by
  show Bool.rec (motive := fun _ => Option AObj) (T.get r (Nat.div m 2)) (T.get l (Nat.div m 2)) (Nat.beq (Nat.mod m 2) 0) = _
  rw [show Nat.mod m 2 = 0 from h]; rfl
theorem T.get_odd (l : T) (v : Option AObj) (r : T) (m : Nat) (h : m % 2 = 1) : (T.node l v r).get (m + 1) = r.get (m / 2) := by
  show Bool.rec (motive := fun _ => Option AObj) (T.get r (Nat.div m 2)) (T.get l (Nat.div m 2)) (Nat.beq (Nat.mod m 2) 0) = _
  rw [show Nat.mod m 2 = 1 from h]; rfl
/-- The tree with another object at a number (depth by fuel); what goes on is given the tree. -/
noncomputable def T.set (fuel : Nat) : T → Nat → Option AObj → (T → Bool) → Bool :=
  Nat.rec (fun _ _ _ _ => false) (fun _ ih t n o K =>
    T.casesOn t
      (Nat.casesOn n (K (.node .leaf o .leaf)) fun m => Bool.rec (ih .leaf (Nat.div m 2) o fun r => K (.node .leaf none r)) (ih .leaf (Nat.div m 2) o fun l => K (.node l none .leaf)) (Nat.beq (Nat.mod m 2) 0))
      (fun l v r => Nat.casesOn n (K (.node l o r)) fun m => Bool.rec (ih r (Nat.div m 2) o fun r' => K (.node l v r')) (ih l (Nat.div m 2) o fun l' => K (.node l' v r)) (Nat.beq (Nat.mod m 2) 0))) fuel
theorem T.set_ok : ∀ (fuel : Nat) (t : T) (n : Nat) (o : Option AObj) (K : T → Bool), T.set fuel t n o K = true → ∃ t', K t' = true ∧ t'.get n = o ∧ ∀ m, m ≠ n → t'.get m = t.get m
  | 0, t, n, o, K, h => by cases h
  | f + 1, t, n, o, K, h => by
    have half : ∀ m : Nat, m % 2 = 0 ∨ m % 2 = 1 := fun m => by omega
    have key : ∀ (l : T) (v : Option AObj) (r : T), (∀ m, (T.node l v r).get m = t.get m) →
        Nat.casesOn (motive := fun _ => Bool) n (K (.node l o r)) (fun m => Bool.rec (T.set f r (Nat.div m 2) o fun r' => K (.node l v r')) (T.set f l (Nat.div m 2) o fun l' => K (.node l' v r)) (Nat.beq (Nat.mod m 2) 0)) = true →
        ∃ t', K t' = true ∧ t'.get n = o ∧ ∀ m, m ≠ n → t'.get m = t.get m := by
      intro l v r hg h
      cases n with
      | zero =>
        refine ⟨_, h, rfl, fun m hm => ?_⟩
        rw [← hg]
        cases m with
        | zero => exact absurd rfl hm
        | succ m =>
          rcases half m with e | e
          · rw [T.get_even _ _ _ _ e, T.get_even _ _ _ _ e]
          · rw [T.get_odd _ _ _ _ e, T.get_odd _ _ _ _ e]
      | succ n =>
        rcases half n with e | e
        · have h' : T.set f l (n / 2) o (fun l' => K (.node l' v r)) = true := by
            have : Nat.beq (Nat.mod n 2) 0 = true := by rw [show Nat.mod n 2 = 0 from e]; rfl
            simp only [this] at h
            exact h
          obtain ⟨l', h1, h2, h3⟩ := T.set_ok f _ _ _ _ h'
          refine ⟨_, h1, by rw [T.get_even _ _ _ _ e]; exact h2, fun m hm => ?_⟩
          rw [← hg]
          cases m with
          | zero => rfl
          | succ m =>
            rcases half m with e' | e'
            · rw [T.get_even _ _ _ _ e', T.get_even _ _ _ _ e']
              exact h3 _ (fun q => hm (by omega))
            · rw [T.get_odd _ _ _ _ e', T.get_odd _ _ _ _ e']
        · have h' : T.set f r (n / 2) o (fun r' => K (.node l v r')) = true := by
            have : Nat.beq (Nat.mod n 2) 0 = false := by rw [show Nat.mod n 2 = 1 from e]; rfl
            simp only [this] at h
            exact h
          obtain ⟨l', h1, h2, h3⟩ := T.set_ok f _ _ _ _ h'
          refine ⟨_, h1, by rw [T.get_odd _ _ _ _ e]; exact h2, fun m hm => ?_⟩
          rw [← hg]
          cases m with
          | zero => rfl
          | succ m =>
            rcases half m with e' | e'
            · rw [T.get_even _ _ _ _ e', T.get_even _ _ _ _ e']
            · rw [T.get_odd _ _ _ _ e', T.get_odd _ _ _ _ e']
              exact h3 _ (fun q => hm (by omega))
    cases t with
    | leaf =>
      refine key .leaf none .leaf (fun m => ?_) h
      cases m with
      | zero => rfl
      | succ m =>
        rcases half m with e | e
        · rw [T.get_even _ _ _ _ e]; rfl
        · rw [T.get_odd _ _ _ _ e]; rfl
    | node l v r => exact key l v r (fun _ => rfl) h
end Go.Sy
