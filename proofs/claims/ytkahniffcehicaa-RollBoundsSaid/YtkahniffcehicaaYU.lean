/- The executor: code, calls. No condition: definitions and plain lemmas. -/
import Derived.Test.YtkahniffcehicaaZJ
import Derived.LoopN
namespace Go.Sy
open Go Go.RowKit Go.Eng

/-- Steps that the program does not see: other numbers for what still matters; a slot's slice is a row of terms. -/
inductive Adm : Type 1 | can (k : Nat) (live : List Nat) | born (t Ty sz : Nat) (α : Type) (enc : α → List PL) | cell (i q r Ty sz : Nat) (α : Type) (enc : α → List PL) | up (t : Nat) | upc (i q r : Nat) | upm (i : Nat) | fix (t n : Nat) | frz (t : Nat)
noncomputable def admsX (l : List Adm) : SL → T → Nat → (SL → T → Nat → Bool) → Bool := List.rec (fun S M nx K => K S M nx) (fun a _ ih S M nx K => Adm.casesOn a (fun k live => canX k live S M fun S M nx => ih S M nx K) (fun t Ty sz α enc => bornX t Ty sz α enc S M nx fun S M nx => ih S M nx K) (fun i q r Ty sz α enc => cellX i q r Ty sz α enc M nx fun M nx => ih S M nx K) (fun t => upX t S fun S => ih S M nx K) (fun i q r => upcX i q r M fun M => ih S M nx K) (fun i => upmX i M fun M => ih S M nx K) (fun t n => fixX t n S fun S => ih S M nx K) (fun t => frz1 (getS t S) M fun v M => ih (.cons t v S) M nx K)) l
noncomputable def admsAt (l : List (Nat × List Adm)) (e : Nat) : List Adm := List.rec [] (fun p _ ih => Bool.rec ih p.2 (Nat.beq p.1 e)) l
inductive XC : Type 1 | bad | skip | ret | exit (k : Nat) | reg (draw : Bool) (n : Nat) (tr : XTr) | seq (x y : XC) | cond (p : XP) (x y : XC) | block (k : Nat) (c : XC) | loop (live : List Nat) (c : XC) | inv (j : Nat) (c : XC) | aft (x : XC) (l : List (Nat × List Adm)) | pre (l : List Adm) (x : XC) | spc (j : Nat) (x : XC)
abbrev KC := Nat → SL → T → Nat → Bool
noncomputable def frc (v : AV) (K0 : Bool) (K : AV → Bool) : Bool := AV.casesOn v K0 (fun k z => K (.int k z)) (fun b => K (.bool b)) (fun l => K (.str l)) (fun i o => K (.ptr i o)) (fun i o n c => K (.sl i o n c)) (fun i => K (.map i)) (K .nilP) (K .nilS) (K .nilM) (K .nilF) (K .nilI) (fun t v => K (.iface t v)) (fun f c => K (.fn f c)) (fun i => K (.yl i)) (fun l => K (.agg l)) (fun l => K (.tup l)) (fun i => K (.any i)) (fun s => K (.sy s))
theorem frc_ok {v : AV} {K0 : Bool} {K : AV → Bool} (h : frc v K0 K = true) : (v = .bad ∧ K0 = true) ∨ K v = true := by
  cases v <;> first | exact .inr h | exact .inl ⟨rfl, h⟩
/-- The slots that still matter. -/
noncomputable def packX (S : SL) (live : List Nat) : SL → (SL → Bool) → Bool := List.rec (fun acc K => K acc) (fun t _ ih acc K => frc (getS t S) (ih acc K) fun v => ih (.cons t v acc) K) live
noncomputable def condX (p : XP) (S : SL) (K : Bool → SL → Bool) : Bool := XP.casesOn p (fun n => refB n S K) (fun v => asB v fun b => K b S) (fun _ => false)
abbrev LpF := Nat → SL → T → Nat → KC → Bool
noncomputable def codeX (cf : CallF) (lp : LpF) (lf : Nat) (c : XC) : SL → T → Nat → KC → Bool := XC.rec
  (fun _ _ _ _ => false) (fun S M nx K => K 0 S M nx) (fun S M nx K => K 1 S M nx) (fun k S M nx K => K k S M nx)
  (fun _ _ tr S M nx K => treeX cf tr S M nx fun S M nx => K 0 S M nx)
  (fun _ _ ihx ihy S M nx K => ihx S M nx fun e S M nx => Nat.casesOn e (ihy S M nx K) fun e' => K (Nat.succ e') S M nx)
  (fun p _ _ ihx ihy S M nx K => condX p S fun b S => ifB b (ihx S M nx K) (ihy S M nx K))
  (fun k _ ih S M nx K => ih S M nx fun e S M nx => ifB (Nat.beq e k) (K 0 S M nx) (K e S M nx))
  (fun live _ ih S M nx K => Nat.rec (motive := fun _ => SL → T → Nat → Bool) (fun _ _ _ => false) (fun _ again S M nx => packX S live .nil fun S => ih S M nx fun e S M nx => Nat.casesOn e (again S M nx) fun e' => K (Nat.succ e') S M nx) lf S M nx)
  (fun j _ _ S M nx K => lp j S M nx K)
  (fun _ l ih S M nx K => ih S M nx fun e S M nx => admsX (admsAt l e) S M nx (K e))
  (fun l _ ih S M nx K => admsX l S M nx fun S M nx => ih S M nx K)
  (fun j _ _ S M nx K => lp j S M nx K) c
def exOf : Nat → Exit
  | 0 => .normal | 1 => .ret | n + 2 => .exit n
def noA : List XSt → Bool
  | [] => true
  | .a .. :: _ => false
  | _ :: r => noA r
def chkC (P : Program) (N : Nat) : XC → Code → Bool
  | .bad, _ => true
  | .skip, .skip => true
  | .ret, .ret => true
  | .exit k, .exit i => Nat.beq k (i + 2)
  | .reg draw n tr, .region _ ops d => decide (draw = d) && chkTr P ops N tr && (match draw, tr with | true, _ => treeB ops n [] (toTr tr) | false, .leaf sts => noA sts && Nat.beq ops.size n && decide ((sts.map fun s => (kOfSt s).1) = List.range n) | _, _ => false)
  | .seq x y, .seq a b => chkC P N x a && chkC P N y b
  | .cond p x y, .cond c a b => opOk p c && chkC P N x a && chkC P N y b
  | .block k c, .block i a => Nat.beq k (i + 2) && chkC P N c a
  | .loop _ c, .loop a => chkC P N c a
  | .inv _ c, .loop a => chkC P N c a
  | .aft x _, c => chkC P N x c
  | .pre _ x, c => chkC P N x c
  | .spc _ x, c => chkC P N x c
  | _, _ => false
/-- Without steps that the program does not see. -/
def plain : XC → Bool
  | .seq x y => plain x && plain y
  | .cond _ x y => plain x && plain y
  | .block _ c => plain c
  | .loop _ c => plain c
  | .inv .. | .aft .. | .pre .. | .spc .. => false
  | _ => true
/-- The loops that are walked by what is said of them. -/
def lpsOf : XC → List (Bool × Nat × XC)
  | .seq x y => lpsOf x ++ lpsOf y
  | .cond _ x y => lpsOf x ++ lpsOf y
  | .block _ c => lpsOf c
  | .loop _ c => lpsOf c
  | .inv j c => [(true, j, c)]
  | .aft x _ => lpsOf x
  | .pre _ x => lpsOf x
  | .spc j x => [(false, j, x)]
  | _ => []
section
variable {P : Program} {E : Env} {ρ : Ren} {G : GS} {F : List Chunk} {M : T} {nx : Nat} {w : World} {N : Nat} {S : SL} {a : Act} {ops : Array Oper} {o : Oper}
theorem condX_ok (s : SR E ρ N S a) {p : XP} {c : Operand} {K : Bool → SL → Bool} (ho : opOk p c = true) (h : condX p S K = true) : ∃ b S', a.eval c = .bool b ∧ SR E ρ N S' a ∧ K b S' = true := by
  cases p with
  | t n =>
    cases c <;> simp only [opOk] at ho <;> first | (cases ho; done) | skip
    have := Nat.eq_of_beq_eq_true ho
    subst this
    obtain ⟨b, S', h1, h2, h3⟩ := refB_ok s (show refB n S K = true from h)
    exact ⟨b, S', h1, h2, h3⟩
  | c v =>
    cases c <;> simp only [opOk] at ho <;> first | (cases ho; done) | skip
    have hd := isC_ok (E := E) (ρ := ρ) ho
    obtain ⟨b, rfl, h1⟩ := asB_ok (show asB v (fun b => K b S) = true from h)
    cases hd
    exact ⟨b, S, rfl, s, h1⟩
  | f n => cases h
theorem packX_ok (s : SR E ρ N S a) : ∀ {live : List Nat} {acc : SL} {K : SL → Bool}, SR E ρ N acc a → packX S live acc K = true → ∃ S', SR E ρ N S' a ∧ K S' = true
  | [], acc, K, sa, h => ⟨acc, sa, h⟩
  | t :: live, acc, K, sa, h => by
    have h' : frc (getS t S) (packX S live acc K) (fun v => packX S live (.cons t v acc) K) = true := h
    rcases frc_ok h' with ⟨_, h1⟩ | h1
    · exact packX_ok s sa h1
    · refine packX_ok s ⟨sa.size, sa.defs, fun u => ?_⟩ h1
      by_cases e : t = u
      · subst e
        rw [getS_self]
        exact s.at_ t
      · rw [getS_ne _ _ e]
        exact sa.at_ u
theorem SR.nil (h1 : a.tmps.size = N) (h2 : a.defers = []) : SR E ρ N .nil a := ⟨h1, h2, fun _ => .inl rfl⟩
theorem wpL_ops {Q : Exit → Act → World → Prop} : ∀ {sts : List XSt} {a : Act} {w : World}, noA sts = true → wpL P ops (fun a w => Q .normal a w) (sts.map kOfSt) a w → wpOps P ops Q (sts.map fun s => (kOfSt s).1) a w
  | [], _, _, _, h => h
  | .p i d g x :: r, a, w, hn, ⟨v, h1, h2⟩ => by
    rw [List.map_cons, wpOps_cons]
    exact op1_Q ((h1 w).to (wpL_ops (Q := Q) (by simpa [noA] using hn) h2))
  | .r i d g x :: r, a, w, hn, ⟨v, h1, h2⟩ => by
    rw [List.map_cons, wpOps_cons]
    exact op1_Q (h1.to (wpL_ops (Q := Q) (by simpa [noA] using hn) h2))
  | .e i d g x :: r, a, w, hn, h => by
    rw [List.map_cons, wpOps_cons]
    exact op1_Q (op1.mono h fun a w h => wpL_ops (Q := Q) (by simpa [noA] using hn) h)
  | .c i d g f xs :: r, a, w, hn, h => by
    rw [List.map_cons, wpOps_cons]
    exact op1_Q (op1.mono h fun a w h => wpL_ops (Q := Q) (by simpa [noA] using hn) h)
  | .a i d g x :: r, a, w, hn, h => by simp [noA] at hn

/-- What is known of the surroundings later. -/
structure Rel (fl : Bool) (pk : Nat) (E : Env) (ρ : Ren) (E' : Env) (ρ' : Ren) : Prop where
  one : EOk E'
  mem : MLe E.M E'.M
  ext : fl = true → Ext E ρ E' ρ'
  pin : ∀ i e, i < pk → ρ i = some e → ρ' i = some e
theorem Ext.rel {fl : Bool} {pk : Nat} {E' : Env} {ρ' : Ren} (h : Ext E ρ E' ρ') : Rel fl pk E ρ E' ρ' := ⟨h.one, h.env.mem, fun _ => h, fun i e _ q => h.le i e q⟩
theorem Rel.trans {fl : Bool} {pk : Nat} {E1 E2 E3 : Env} {r1 r2 r3 : Ren} (h : Rel fl pk E1 r1 E2 r2) (k : Rel fl pk E2 r2 E3 r3) : Rel fl pk E1 r1 E3 r3 := ⟨k.one, MLe.trans h.mem k.mem, fun q => (h.ext q).trans (k.ext q), fun i e q1 q2 => k.pin i e q1 (h.pin i e q1 q2)⟩
theorem Rel.next {pk : Nat} {E1 E2 : Env} {r1 r2 r3 : Ren} (h : Rel false pk E1 r1 E2 r2) (k : ∀ i e, i < pk → r2 i = some e → r3 i = some e) : Rel false pk E1 r1 E2 r3 := ⟨h.one, h.mem, fun q => (by cases q), fun i e q1 q2 => k i e q1 (h.pin i e q1 q2)⟩
theorem Rel.prev {pk : Nat} {E1 E2 : Env} {r1 r2 r3 : Ren} (h : Rel false pk E1 r2 E2 r3) (k : ∀ i e, i < pk → r1 i = some e → r2 i = some e) : Rel false pk E1 r1 E2 r3 := ⟨h.one, h.mem, fun q => (by cases q), fun i e q1 q2 => h.pin i e q1 (k i e q1 q2)⟩
def keepA (pk : Nat) : List Adm → Bool
  | [] => true
  | .can k _ :: l => Nat.ble pk k && keepA pk l
  | .born .. :: l => keepA pk l
  | .cell .. :: l => keepA pk l
  | .up _ :: l => keepA pk l
  | .upc .. :: l => keepA pk l
  | .upm _ :: l => keepA pk l
  | .fix .. :: l => keepA pk l
  | .frz _ :: l => keepA pk l
def keepL (pk : Nat) : List (Nat × List Adm) → Bool
  | [] => true
  | p :: l => keepA pk p.2 && keepL pk l
/-- The first numbers stay, everywhere. -/
def keepB (pk : Nat) : XC → Bool
  | .seq x y => keepB pk x && keepB pk y
  | .cond _ x y => keepB pk x && keepB pk y
  | .block _ c => keepB pk c
  | .loop _ c => keepB pk c
  | .aft x l => keepB pk x && keepL pk l
  | .pre l x => keepA pk l && keepB pk x
  | _ => true
theorem keepL_at {pk : Nat} : ∀ {l : List (Nat × List Adm)} {e : Nat}, keepL pk l = true → keepA pk (admsAt l e) = true
  | [], e, _ => rfl
  | p :: l, e, h => by
    obtain ⟨h1, h2⟩ := and2 h
    have : admsAt (p :: l) e = (Bool.rec (admsAt l e) p.2 (Nat.beq p.1 e) : List Adm) := rfl
    rw [this]
    cases Nat.beq p.1 e
    · exact keepL_at h2
    · exact h1
theorem admsX_ok {pk : Nat} : ∀ {l : List Adm} {S : SL} {M : T} {nx : Nat} {E : Env} {ρ : Ren} {K : SL → T → Nat → Bool}, EOk E → keepA pk l = true → SR E ρ N S a → Sim E ρ G F M nx w → admsX l S M nx K = true → ∃ S' M' nx' E' ρ', EOk E' ∧ MLe E.M E'.M ∧ SR E' ρ' N S' a ∧ Sim E' ρ' G F M' nx' w ∧ K S' M' nx' = true ∧ ∀ i e, i < pk → ρ i = some e → ρ' i = some e
  | [], S, M, nx, E, ρ, K, hE, _, s, h, hk => ⟨S, M, nx, E, ρ, hE, MLe.refl _, s, h, hk, fun _ _ _ q => q⟩
  | .can k live :: l, S, M, nx, E, ρ, K, hE, hp, s, h, hk => by
    obtain ⟨hp1, hp2⟩ := and2 hp
    rw [Nat.ble_eq] at hp1
    obtain ⟨S1, M1, n1, ρ1, s1, h1, k1, p1⟩ := canX_ok (K := fun S M nx => admsX l S M nx K) s h hk
    obtain ⟨S2, M2, n2, E2, ρ2, o2, m2, s2, h2, k2, p2⟩ := admsX_ok hE hp2 s1 h1 k1
    exact ⟨S2, M2, n2, E2, ρ2, o2, m2, s2, h2, k2, fun i e q1 q2 => p2 i e q1 (p1 i e (Nat.lt_of_lt_of_le q1 hp1) q2)⟩
  | .born t Ty sz α enc :: l, S, M, nx, E, ρ, K, hE, hp, s, h, hk => by
    obtain ⟨S1, M1, n1, ρ1, le1, s1, h1, k1⟩ := bornX_ok (K := fun S M nx => admsX l S M nx K) s h hk
    obtain ⟨S2, M2, n2, E2, ρ2, o2, m2, s2, h2, k2, p2⟩ := admsX_ok hE (show keepA pk l = true from hp) s1 h1 k1
    exact ⟨S2, M2, n2, E2, ρ2, o2, m2, s2, h2, k2, fun i e q1 q2 => p2 i e q1 (le1 i e q2)⟩
  | .cell i q r Ty sz α enc :: l, S, M, nx, E, ρ, K, hE, hp, s, h, hk => by
    obtain ⟨M1, n1, ρ1, le1, h1, k1⟩ := cellX_ok (K := fun M nx => admsX l S M nx K) h hk
    obtain ⟨S2, M2, n2, E2, ρ2, o2, m2, s2, h2, k2, p2⟩ := admsX_ok hE (show keepA pk l = true from hp) (s.mono le1) h1 k1
    exact ⟨S2, M2, n2, E2, ρ2, o2, m2, s2, h2, k2, fun i e q1 q2 => p2 i e q1 (le1 i e q2)⟩
  | .up t :: l, S, M, nx, E, ρ, K, hE, hp, s, h, hk => by
    obtain ⟨S1, s1, k1⟩ := upX_ok (K := fun S => admsX l S M nx K) s hk
    exact admsX_ok hE (show keepA pk l = true from hp) s1 h k1
  | .upc i q r :: l, S, M, nx, E, ρ, K, hE, hp, s, h, hk => by
    obtain ⟨M1, h1, k1⟩ := upcX_ok (K := fun M => admsX l S M nx K) h hk
    exact admsX_ok hE (show keepA pk l = true from hp) s h1 k1
  | .upm i :: l, S, M, nx, E, ρ, K, hE, hp, s, h, hk => by
    obtain ⟨M1, h1, k1⟩ := upmX_ok (K := fun M => admsX l S M nx K) h hk
    exact admsX_ok hE (show keepA pk l = true from hp) s h1 k1
  | .fix t n :: l, S, M, nx, E, ρ, K, hE, hp, s, h, hk => by
    obtain ⟨S1, s1, k1⟩ := fixX_ok (K := fun S => admsX l S M nx K) s hk
    exact admsX_ok hE (show keepA pk l = true from hp) s1 h k1
  | .frz t :: l, S, M, nx, E, ρ, K, hE, hp, s, h, hk => by
    have hk' : (frz1 (getS t S) M fun v M => admsX l (.cons t v S) M nx K) = true := hk
    have hne : getS t S ≠ .bad := fun e => by rw [e] at hk'; cases hk'
    obtain ⟨x, q1, q2⟩ := (s.at_ t).resolve_left hne
    obtain ⟨E1, M1, u, e1, e2, e3, e4, k1⟩ := frz1_ok h q1 hk'
    have hE1 : EOk E1 := fun i => by rw [e2]; exact hE i
    have s1 : SR E1 ρ N (.cons t u S) a := ⟨s.size, s.defs, fun r => by
      by_cases q : t = r
      · subst q
        rw [getS_self]
        exact .inr ⟨x, den_mono (ρ := fun _ => none) (fun _ _ q => by cases q) u x e4, q2⟩
      · rw [getS_ne _ _ q]
        exact (s.at_ r).imp id fun ⟨y, y1, y2⟩ => ⟨y, den_env e1 _ _ y1, y2⟩⟩
    obtain ⟨S2, M2, n2, E2, ρ2, o2, m2, s2, h2, k2, p2⟩ := admsX_ok hE1 (show keepA pk l = true from hp) s1 e3 k1
    exact ⟨S2, M2, n2, E2, ρ2, o2, MLe.trans e1.mem m2, s2, h2, k2, p2⟩
/-- What is said of a loop, or of a piece of code, holds. -/
def LpOk (P : Program) (N pk : Nat) (lp : LpF) (b : Bool) (j : Nat) (x : XC) : Prop := ∀ (c : Code) (S : SL) (M : T) (nx : Nat) (E : Env) (ρ : Ren) (G : GS) (F : List Chunk) (a : Act) (w : World) (K : KC) (Q : Exit → Act → World → Prop), EOk E → chkC P N x c = true → SR E ρ N S a → Sim E ρ G F M nx w → lp j S M nx K = true →
  (∀ e S' M' nx' E' ρ' a' w', K e S' M' nx' = true → Rel false pk E ρ E' ρ' → SR E' ρ' N S' a' → Sim E' ρ' G F M' nx' w' → Q (exOf e) a' w') → (bif b then Code.loop c else c).wp P Q a w
theorem codeX_ok (hm : P.follows .mixedOrders = true) {cf : CallF} (hcf : CallOk P cf) {lp : LpF} {lf : Nat} {fl : Bool} {pk : Nat} : ∀ (xc : XC) (c : Code) {S : SL} {M : T} {nx : Nat} {E : Env} {ρ : Ren} {a : Act} {w : World} {K : KC} {Q : Exit → Act → World → Prop}, EOk E → (fl = true → plain xc = true) → keepB pk xc = true → (∀ b j x, (b, j, x) ∈ lpsOf xc → LpOk P N pk lp b j x) → chkC P N xc c = true → SR E ρ N S a → Sim E ρ G F M nx w → codeX cf lp lf xc S M nx K = true →
    (∀ e S' M' nx' E' ρ' a' w', K e S' M' nx' = true → Rel fl pk E ρ E' ρ' → SR E' ρ' N S' a' → Sim E' ρ' G F M' nx' w' → Q (exOf e) a' w') → c.wp P Q a w := by
  intro xc
  induction xc with
  | bad =>
    intro c S M nx E ρ a w K Q hE hfl hkp hlp hc s h hk hq
    cases hk
  | skip =>
    intro c S M nx E ρ a w K Q hE hfl hkp hlp hc s h hk hq
    cases c <;> simp only [chkC] at hc <;> first | (cases hc; done) | skip
    exact wp_skip (hq 0 _ _ _ _ _ _ _ hk (Ext.of hE (Ren.Le.refl _)).rel s h)
  | ret =>
    intro c S M nx E ρ a w K Q hE hfl hkp hlp hc s h hk hq
    cases c <;> simp only [chkC] at hc <;> first | (cases hc; done) | skip
    exact wp_ret (hq 1 _ _ _ _ _ _ _ hk (Ext.of hE (Ren.Le.refl _)).rel s h)
  | exit k =>
    intro c S M nx E ρ a w K Q hE hfl hkp hlp hc s h hk hq
    cases c <;> simp only [chkC] at hc <;> first | (cases hc; done) | skip
    have := Nat.eq_of_beq_eq_true hc
    subst this
    exact wp_exit (hq _ _ _ _ _ _ _ _ hk (Ext.of hE (Ren.Le.refl _)).rel s h)
  | reg draw n tr =>
    intro c S M nx E ρ a w K Q hE hfl hkp hlp hc s h hk hq
    cases c <;> simp only [chkC] at hc <;> first | (cases hc; done) | skip
    rename_i id ops d
    obtain ⟨hc, c3⟩ := and2 hc
    obtain ⟨c1, c2⟩ := and2 hc
    rw [decide_eq_true_eq] at c1
    subst c1
    cases draw with
    | true =>
      refine wp_region_tree hm n _ c3 ?_
      exact treeX_ok hE hcf s h.drawn (fun S' M' nx' E' ρ' a' w' k1 k2 k3 k4 => hq 0 _ _ _ _ _ _ _ k1 k2.rel k3 k4) c2 hk
    | false =>
      cases tr with
      | split x y t u => cases c3
      | leaf sts =>
        have hall : ∀ st ∈ sts, chkSt P ops N st = true := fun st hst => List.all_eq_true.1 c2 st hst
        obtain ⟨hc, c5⟩ := and2 c3
        obtain ⟨c3, c4⟩ := and2 hc
        rw [decide_eq_true_eq] at c5
        have c4 := Nat.eq_of_beq_eq_true c4
        refine wp_region ?_
        rw [c4, ← c5]
        exact wpL_ops c3 (regX_ok hcf hE hall s h hk fun S' M' nx' E' ρ' a' w' k1 k2 k3 k4 => hq 0 _ _ _ _ _ _ _ k1 k2.rel k3 k4)
  | seq x y ihx ihy =>
    intro c S M nx E ρ a w K Q hE hfl hkp hlp hc s h hk hq
    cases c <;> simp only [chkC] at hc <;> first | (cases hc; done) | skip
    obtain ⟨c1, c2⟩ := and2 hc
    refine wp_seq (ihx _ hE (fun q => (and2 (hfl q)).1) (and2 hkp).1 (fun b j x h => hlp b j x (List.mem_append.2 (.inl h))) c1 s h hk fun e S' M' nx' E' ρ' a' w' k1 k2 k3 k4 => ?_)
    match e, k1 with
    | 0, k1 => exact ihy _ k2.one (fun q => (and2 (hfl q)).2) (and2 hkp).2 (fun b j x h => hlp b j x (List.mem_append.2 (.inr h))) c2 k3 k4 k1 fun e S2 M2 nx2 E2 ρ2 a2 w2 j1 j2 => hq e _ _ _ _ _ _ _ j1 (k2.trans j2)
    | 1, k1 => exact hq 1 _ _ _ _ _ _ _ k1 k2 k3 k4
    | n + 2, k1 => exact hq (n + 2) _ _ _ _ _ _ _ k1 k2 k3 k4
  | cond p x y ihx ihy =>
    intro c S M nx E ρ a w K Q hE hfl hkp hlp hc s h hk hq
    cases c <;> simp only [chkC] at hc <;> first | (cases hc; done) | skip
    obtain ⟨hc, c3⟩ := and2 hc
    obtain ⟨c1, c2⟩ := and2 hc
    obtain ⟨b, S, h2, s, h4⟩ := condX_ok s c1 hk
    rcases ifB_ok h4 with ⟨rfl, h5⟩ | ⟨rfl, h5⟩
    · exact wp_cond_true h2 (ihx _ hE (fun q => (and2 (hfl q)).1) (and2 hkp).1 (fun b j x h => hlp b j x (List.mem_append.2 (.inl h))) c2 s h h5 hq)
    · exact wp_cond_false h2 (ihy _ hE (fun q => (and2 (hfl q)).2) (and2 hkp).2 (fun b j x h => hlp b j x (List.mem_append.2 (.inr h))) c3 s h h5 hq)
  | block k x ih =>
    intro c S M nx E ρ a w K Q hE hfl hkp hlp hc s h hk hq
    cases c <;> simp only [chkC] at hc <;> first | (cases hc; done) | skip
    rename_i i cc
    obtain ⟨c1, c2⟩ := and2 hc
    have c1 := Nat.eq_of_beq_eq_true c1
    subst c1
    refine wp_block (ih _ hE hfl hkp hlp c2 s h hk fun e S' M' nx' E' ρ' a' w' k1 k2 k3 k4 => ?_)
    rcases ifB_ok k1 with ⟨q, g1⟩ | ⟨q, g1⟩
    · have he := Nat.eq_of_beq_eq_true q
      have h0 := hq 0 _ _ _ _ _ _ _ g1 k2 k3 k4
      rw [he]
      simp only [exOf, Exit.inBlock, if_true]
      exact h0
    · have := hq e _ _ _ _ _ _ _ g1 k2 k3 k4
      match e, q, this with
      | 0, _, this => exact this
      | 1, _, this => exact this
      | n + 2, q, this =>
        have hne : ¬ n = i := fun e => by subst e; simp at q
        simp only [exOf, Exit.inBlock, if_neg hne]
        exact this
  | loop live x ih =>
    intro c S M nx E ρ a w K Q hE hfl hkp hlp hc s h hk hq
    cases c <;> simp only [chkC] at hc <;> first | (cases hc; done) | skip
    rename_i cc
    refine wp_loop_rounds lf ?_
    have key : ∀ (n : Nat) {S : SL} {M : T} {nx : Nat} {E : Env} {ρ : Ren} {a : Act} {w : World}, EOk E → SR E ρ N S a → Sim E ρ G F M nx w →
        (Nat.rec (motive := fun _ => SL → T → Nat → Bool) (fun _ _ _ => false) (fun _ again S M nx => packX S live .nil fun S => codeX cf lp lf x S M nx fun e S M nx => Nat.casesOn e (again S M nx) fun e' => K (Nat.succ e') S M nx) n S M nx) = true →
        (∀ e S' M' nx' E' ρ' a' w', K e S' M' nx' = true → Rel fl pk E ρ E' ρ' → SR E' ρ' N S' a' → Sim E' ρ' G F M' nx' w' → Q (exOf e) a' w') → Code.rounds P cc Q n a w := by
      intro n
      induction n with
      | zero => intro S M nx E ρ a w _ _ _ hk; cases hk
      | succ n ihn =>
        intro S M nx E ρ a w hE s h hk hq
        obtain ⟨S1, s1, hk1⟩ := packX_ok s (SR.nil s.size s.defs) hk
        refine ih _ hE hfl hkp hlp hc s1 h hk1 fun e S' M' nx' E' ρ' a' w' k1 k2 k3 k4 => ?_
        match e, k1 with
        | 0, k1 => exact ihn k2.one k3 k4 k1 fun e S2 M2 nx2 E2 ρ2 a2 w2 j1 j2 => hq e _ _ _ _ _ _ _ j1 (k2.trans j2)
        | 1, k1 => exact hq 1 _ _ _ _ _ _ _ k1 k2 k3 k4
        | m + 2, k1 => exact hq (m + 2) _ _ _ _ _ _ _ k1 k2 k3 k4
    exact key lf hE s h hk hq
  | inv j x ih =>
    intro c S M nx E ρ a w K Q hE hfl hkp hlp hc s h hk hq
    cases c <;> simp only [chkC] at hc <;> first | (cases hc; done) | skip
    cases fl with
    | true => exact absurd (hfl rfl) (by simp [plain])
    | false => exact hlp true j x (by simp [lpsOf]) _ S M nx E ρ G F a w K Q hE hc s h hk hq
  | aft x l ih =>
    intro c S M nx E ρ a w K Q hE hfl hkp hlp hc s h hk hq
    cases fl with
    | true => exact absurd (hfl rfl) (by simp [plain])
    | false =>
      have hc' : chkC P N x c = true := by
        cases c <;> exact hc
      refine ih c hE (fun q => by cases q) (and2 hkp).1 hlp hc' s h hk fun e S' M' nx' E' ρ' a' w' k1 k2 k3 k4 => ?_
      obtain ⟨S2, M2, n2, E2, ρ2, o2, m2, s2, h2, g2, p2⟩ := admsX_ok k2.one (keepL_at (and2 hkp).2) k3 k4 k1
      exact hq e S2 M2 n2 E2 ρ2 a' w' g2 (k2.trans ⟨o2, m2, fun q => (by cases q), p2⟩) s2 h2
  | pre l x ih =>
    intro c S M nx E ρ a w K Q hE hfl hkp hlp hc s h hk hq
    cases fl with
    | true => exact absurd (hfl rfl) (by simp [plain])
    | false =>
      have hc' : chkC P N x c = true := by
        cases c <;> exact hc
      obtain ⟨S2, M2, n2, E2, ρ2, o2, m2, s2, h2, g2, p2⟩ := admsX_ok (K := fun S M nx => codeX cf lp lf x S M nx K) hE (and2 hkp).1 s h hk
      exact ih c o2 (fun q => by cases q) (and2 hkp).2 hlp hc' s2 h2 g2 fun e S' M' nx' E' ρ' a' w' k1 k2 k3 k4 => hq e S' M' nx' E' ρ' a' w' k1 (Rel.trans ⟨o2, m2, fun q => (by cases q), p2⟩ k2) k3 k4
  | spc j x ih =>
    intro c S M nx E ρ a w K Q hE hfl hkp hlp hc s h hk hq
    cases fl with
    | true => exact absurd (hfl rfl) (by simp [plain])
    | false =>
      have hc' : chkC P N x c = true := by
        cases c <;> exact hc
      exact hlp false j x (by simp [lpsOf]) c S M nx E ρ G F a w K Q hE hc' s h hk hq

end
end Go.Sy
