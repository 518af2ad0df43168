/- The executor: one operation. No condition: definitions and plain lemmas. -/
import Derived.Test.YtkahniffcehicaaYO
namespace Go.Sy
open Go Go.RowKit Go.Eng

inductive XO
  | bad | mv (x : XP) | pick (c x y : XP) | bin (f o : Nat) (x y : XP) | eqs (ne : Bool) (d : Nat) (et : ET) (x y : XP) | isn (ne : Bool) (kd : Nat) (x : XP) | un (f : Nat) (x : XP) | cnv (k : Nat) (x : XP)
  | fa (off : Nat) (x : XP) | nck (x : XP) | ixa (n sz : Nat) (x i : XP) | ixs (sz : Nat) (x i : XP) | fld (agg : Bool) (off n : Nat) (x : XP) | len (f : Nat) (x : XP) | mx (b : Bool) (x y : XP) | ext (i : Nat) (x : XP) | six (x i : XP)
  | bld (z : List AV) (ps : List (Nat × Nat)) (xs : List XP)
  | ld (agg : Bool) (n : Nat) (x : XP) | mlen (x : XP) | sls (sz : Nat) (x : XP) (lo hi mx : Option XP) | lk (d : Nat) (et : ET) (zv : AV) (comma : Bool) (m k : XP) | ent (it : XP)
  | st (n : Nat) (x y : XP) | al (T : Nat) (z : List AV) | box (T : Nat) (x : XP) | bsl (Ty sz len : Nat) (z : List AV) (ps : List (Nat × Nat)) (xs : List XP) | mks (Ty sz bytes : Nat) (z : List AV) (l c : XP) | mkm
  | mu (d : Nat) (et : ET) (m k v : XP) | rng (m : XP) | nxt (it : XP) | app (Ty sz bytes : Nat) (x y : XP) | del (d : Nat) (et : ET) (m k : XP)

/-- As many cells as each part wants. -/
noncomputable def szsB (ps : List (Nat × Nat)) : List AV → Bool := List.rec (fun vs => List.casesOn vs true fun _ _ => false) (fun p _ ih vs => List.casesOn vs false fun v r => Bool.and (Nat.beq (lenL (cellsA v)) p.2) (ih r)) ps
theorem szsB_ok {E : Env} {ρ : Ren} (hE : EOk E) : ∀ {ps : List (Nat × Nat)} {vs : List AV} {ys : List Value}, szsB ps vs = true → denL E ρ vs = some ys → ∀ (k : Nat) (p : Nat × Nat) (y : Value), ps[k]? = some p → ys[k]? = some y → y.cells.size = p.2
  | [], vs, ys, h, hd => by intro k p y hp; simp at hp
  | q :: ps, [], ys, h, hd => by cases h
  | q :: ps, v :: vs, ys, h, hd => by
    obtain ⟨x, xs, h1, h2, rfl⟩ := denL_cons hd
    obtain ⟨h3, h4⟩ := band (a := Nat.beq (lenL (cellsA v)) q.2) (b := szsB ps vs) h
    intro k p y hp hy
    cases k with
    | zero =>
      simp at hp hy
      subst hp; subst hy
      have := denL_len (cellsA_den hE h1)
      have h3 := Nat.eq_of_beq_eq_true h3
      rw [lenL_eq] at h3
      rw [← h3, ← this]
      simp
    | succ k => exact szsB_ok hE h4 h2 k p y (by simpa using hp) (by simpa using hy)
noncomputable def opP (x : XO) (S : SL) (K : AV → Bool) : Bool := match x with
  | .mv x => ev S x K
  | .pick c x y => ev S c fun c => asBs c fun b => ifB b (ev S x K) (ev S y K)
  | .bin f o x y => ev S x fun u => ev S y fun v => Nat.rec (arY o u v K) (fun f _ => Nat.rec (bitX o u v K) (fun f _ => Nat.rec (shX (Nat.beq o 1) u v K) (fun f _ => Nat.rec (cmpY o u v K) (fun f _ => Nat.rec (saddY u v K) (fun _ _ => seqY (Nat.beq o 1) u v K) f) f) f) f) f
  | .eqs ne d et x y => ev S x fun u => ev S y fun v => eqX d et u v fun b => fB (Bool.rec b (Bool.not b) ne) fun r => K (.bool r)
  | .isn ne kd x => ev S x fun u => isnY ne kd u K
  | .un f x => ev S x fun u => Nat.rec (notY u K) (fun f _ => Nat.rec (negY u K) (fun _ _ => comX u K) f) f
  | .cnv k x => ev S x fun u => cnvY k u K
  | .fa off x => ev S x fun u => faY off u K
  | .nck x => ev S x fun u => nckY u K
  | .ixa n sz x i => ev S x fun u => ev S i fun v => ixaY n sz u v K
  | .ixs sz x i => ev S x fun u => ev S i fun v => ixsY sz u v K
  | .fld agg off n x => ev S x fun u => fldX agg off n u K
  | .len f x => ev S x fun u => Nat.rec (slenY u K) (fun _ _ => lenY u K) f
  | .mx b x y => ev S x fun u => ev S y fun v => mxY b u v K
  | .ext i x => ev S x fun u => extX i u K
  | .six x i => ev S x fun u => ev S i fun v => sixY u v K
  | .bld z ps xs => evL S xs fun vs => must (szsB ps vs) (bldX z ((ps.map (·.1)).zip vs) K)
  | _ => false
noncomputable def opR (x : XO) (S : SL) (M : T) (K : AV → Bool) : Bool := match x with
  | .ld agg n x => ev S x fun u => ldY agg n u M K
  | .mlen x => ev S x fun u => mlenX u M K
  | .sls sz x lo hi mx => ev S x fun u => evO S lo fun l => evO S hi fun h => evO S mx fun m => slsY sz u l h m M K
  | .lk d et zv comma m k => ev S m fun u => ev S k fun v => lkX d et zv comma u v M K
  | .ent it => ev S it fun u => entX u M K
  | _ => false
noncomputable def opE (x : XO) (S : SL) (M : T) (nx : Nat) (K : AV → T → Nat → Bool) : Bool := match x with
  | .st n x y => ev S x fun u => ev S y fun v => stY n u v M fun M' => K .bad M' nx
  | .al T z => must (Nat.blt 0 (lenL z)) (newX T z M nx K)
  | .box T x => ev S x fun u => boxX T u M nx K
  | .bsl Ty sz len z ps xs => evL S xs fun vs => must (szsB ps vs) (bslX Ty sz len z ((ps.map (·.1)).zip vs) M nx K)
  | .mks Ty sz bytes z l c => ev S l fun u => ev S c fun v => mksY Ty sz bytes z u v M nx K
  | .mkm => mkmX M nx K
  | .mu d et m k v => ev S m fun m => ev S k fun k => ev S v fun v => muX d et m k v M fun M' => K .bad M' nx
  | .rng m => ev S m fun u => rngX u M nx K
  | .nxt it => ev S it fun u => nxtX u M fun v M' => K v M' nx
  | .app Ty sz bytes x y => ev S x fun u => ev S y fun v => appY Ty sz bytes u v M nx K
  | .del d et m k => ev S m fun u => ev S k fun v => delX d et u v M fun M' => K (.tup []) M' nx
  | _ => false

/-! ### Is it the program's operation? -/
def binF : Nat → Nat → BinOp
  | 0, o => bopA o
  | 1, o => bopB o
  | 2, o => bif Nat.beq o 1 then .shr else .shl
  | 3, o => copA o
  | 4, _ => .add
  | _, o => bif Nat.beq o 1 then .neq else .eql
def fstOk : List (Nat × Nat) → List (Nat × Operand) → List XP → Bool
  | [], [], [] => true
  | _ :: ps, q :: qs, x :: xs => opOk x q.2 && fstOk ps qs xs
  | _, _, _ => false
def chkO (P : Program) (x : XO) (o : Op) : Bool := match x with
  | .bad => true
  | .mv x => match o with | .move y | .assign y => opOk x y | _ => false
  | .pick c x y => match o with | .pick c' x' y' => opOk c c' && opOk x x' && opOk y y' | _ => false
  | .bin f k x y => match o with | .binOp b _ x' y' _ => decide (b = binF f k) && opOk x x' && opOk y y' | _ => false
  | .eqs ne d et x y => match o with | .binOp b t x' y' _ => decide (b = bif ne then .neq else .eql) && Nat.ble d 10000 && chkET P d et t && !P.eqGuardType P.depth t && opOk x x' && opOk y y' | _ => false
  | .isn ne kd x => match o with | .binOp b t x' (.const c) _ => decide (b = bif ne then .neq else .eql) && (match nilV P t kd with | some z => (isC .nilP c && isC .nilP z) || (isC .nilS c && isC .nilS z) || (isC .nilM c && isC .nilM z) || (isC .nilF c && isC .nilF z) || (isC .nilI c && isC .nilI z) | none => false) && opOk x x' | _ => false
  | .un f x => match o with | .unOp u _ x' => opOk x x' && decide (u = match f with | 0 => .not | 1 => .neg | _ => .xor) | _ => false
  | .cnv k x => match o with | .convert s t x' => opOk x x' && (P.underlying s).isSome && isInT P t k | _ => false
  | .fa off x => match o with | .fieldAddr s x' f => opOk x x' && decide (fOff P s f = some off) | _ => false
  | .nck x => match o with | .nilCheck x' => opOk x x' | _ => false
  | .ixa n sz x i => match o with | .indexAddr t x' i' => opOk x x' && opOk i i' && isArT P t n (elT P t) && decide (szOf P (elT P t) = some sz) | _ => false
  | .ixs sz x i => match o with | .indexAddr t x' i' => opOk x x' && opOk i i' && isSlT P t (elT P t) && decide (szOf P (elT P t) = some sz) | _ => false
  | .fld agg off n x => match o with | .field t x' f => opOk x x' && (match P.underlying t with | some (.struct fs) => (match fs[f]? with | some g => Nat.beq g.offset off && decide (isAg P g.type = some agg) && decide (szOf P g.type = some n) | none => false) | _ => false) | _ => false
  | .len f x => match o with | .call c => (match c.callee, c.args.toList, c.argTypes.toList with | .builtin .len, [x'], [t] => opOk x x' && (match f with | 0 => isStT P t | _ => isSlT P t (elT P t)) | _, _, _ => false) | _ => false
  | .mlen x => match o with | .call c => (match c.callee, c.args.toList, c.argTypes.toList with | .builtin .len, [x'], [t] => opOk x x' && isMpT P t (keT P t) (elT P t) | _, _, _ => false) | _ => false
  | .mx b x y => match o with | .call c => (match c.callee, c.args.toList with | .builtin f, [x', y'] => opOk x x' && opOk y y' && decide (f = bif b then .max else .min) | _, _ => false) | _ => false
  | .app Ty sz bytes x y => match o with | .call c => (match c.callee, c.args.toList, c.argTypes.toList with | .builtin .append, [x', y'], [t, u] => opOk x x' && opOk y y' && Nat.beq t u && isSlT P t Ty && elemOk P Ty sz bytes | _, _, _ => false) | _ => false
  | .del d et m k => match o with | .call c => (match c.callee, c.args.toList, c.argTypes.toList with | .builtin .delete, [x', y'], [t, _] => opOk m x' && opOk k y' && Nat.ble d 10000 && isMpT P t (keT P t) (elT P t) && chkET P d et (keT P t) | _, _, _ => false) | _ => false
  | .ext i x => match o with | .extract x' j => opOk x x' && Nat.beq i j | _ => false
  | .six x i => match o with | .index t x' i' => opOk x x' && opOk i i' && isStT P t | _ => false
  | .bld z ps xs => match o with | .build t qs => fldsOk P t && zeroIs P t z && partsOk P t (qs.toList.map (·.1)) ps && opsOk xs (qs.toList.map (·.2)) | _ => false
  | .ld agg n x => match o with | .load t x' => opOk x x' && decide (isAg P t = some agg) && decide (szOf P t = some n) | _ => false
  | .sls sz x lo hi mx => match o with | .slice t x' lo' hi' mx' => opOk x x' && opoOk lo lo' && opoOk hi hi' && opoOk mx mx' && isSlT P t (elT P t) && decide (szOf P (elT P t) = some sz) | _ => false
  | .lk d et zv comma m k => match o with | .lookup t m' k' c => opOk m m' && opOk k k' && decide (c = comma) && Nat.ble d 10000 && isMpT P t (keT P t) (elT P t) && chkET P d et (keT P t) && zvIs P (elT P t) zv | _ => false
  | .ent it => match o with | .entry x' => opOk it x' | _ => false
  | .st n x y => match o with | .store t x' y' => opOk x x' && opOk y y' && decide (szOf P t = some n) | _ => false
  | .al T z => match o with | .alloc t => Nat.beq t T && zeroIs P t z | _ => false
  | .box T x => match o with | .box t x' => opOk x x' && Nat.beq t T | _ => false
  | .bsl Ty sz len z ps xs => match o with | .buildSlice t n qs => Nat.beq n len && isSlT P t Ty && zerosIs P Ty sz len z && partsOk P t (qs.toList.map (·.1)) ps && opsOk xs (qs.toList.map (·.2)) | _ => false
  | .mks Ty sz bytes z l c => match o with | .makeSlice t l' c' => opOk l l' && opOk c c' && isSlT P t Ty && elemOk P Ty sz bytes && zeroIs P Ty z | _ => false
  | .mkm => match o with | .makeMap t none => isMpT P t (keT P t) (elT P t) | _ => false
  | .mu d et m k v => match o with | .mapUpdate t m' k' v' | .insert t m' k' v' => opOk m m' && opOk k k' && opOk v v' && Nat.ble d 10000 && isMpT P t (keT P t) (elT P t) && chkET P d et (keT P t) | _ => false
  | .rng m => match o with | .range t m' => opOk m m' && isMpT P t (keT P t) (elT P t) | _ => false
  | .nxt it => match o with | .next x' s => opOk it x' && !s | _ => false
end Go.Sy
