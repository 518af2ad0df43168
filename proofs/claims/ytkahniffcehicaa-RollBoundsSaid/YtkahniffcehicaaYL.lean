/- The executor: maps, one by one. No condition: definitions and plain lemmas. -/
import Derived.Test.YtkahniffcehicaaYK
import Derived.MapKept
namespace Go.Sy
open Go Go.RowKit Go.Eng

/-- A key that has the form of its plan. -/
noncomputable def shpX : Nat → ET → AV → Bool → Bool :=
  Nat.rec (fun _ _ _ => false) (fun _ ih et v K => ET.casesOn et
    (asZ v fun _ _ => K) (asPr v fun _ => K) (asT v fun _ => K)
    (fun fs => asAgg v fun cs => List.rec K (fun f _ r => partA f.2.2.1 f.1 f.2.1 cs fun u => ih f.2.2.2 u r) fs)
    (fun offs n agg e => asAgg v fun cs => List.rec K (fun o _ r => partA agg o n cs fun u => ih e u r) offs))
section
variable {P : Program} {E : Env} {ρ : Ren} {G : GS} {F : List Chunk} {M : T} {nx : Nat} {w : World}
theorem shpX_ok : ∀ (d : Nat) {et : ET} {v : AV} {K : Bool} {x : Value} {t : TypeId}, chkET P d et t = true → den E ρ v = some x → shpX d et v K = true → K = true ∧ ∀ (e : Bool) (n : Nat) (w : World), d ≤ n → (Instr.checkKey e n t x).run P w = .ok () w
  | 0, et, v, K, x, t, hc, _, _ => by simp [chkET] at hc
  | d + 1, et, v, K, x, t, hc, hx, hk => by
    unfold chkET at hc
    split at hc
    · rename_i kk hu
      obtain ⟨k, a, rfl, g⟩ := asZ_ok (K := fun _ _ => K) hx hk
      refine ⟨g, fun e n w hn => ?_⟩
      obtain ⟨n, rfl⟩ : ∃ n', n = n' + 1 := ⟨n - 1, by omega⟩
      simp [Instr.checkKey, run_underlying hu]
    · rename_i hu
      obtain ⟨a, rfl, g⟩ := asPr_ok (K := fun _ => K) hx hk
      refine ⟨g, fun e n w hn => ?_⟩
      obtain ⟨n, rfl⟩ : ∃ n', n = n' + 1 := ⟨n - 1, by omega⟩
      simp [Instr.checkKey, run_underlying hu]
    · rename_i hu
      obtain ⟨a, rfl, g⟩ := asT_ok (K := fun _ => K) hx hk
      refine ⟨g, fun e n w hn => ?_⟩
      obtain ⟨n, rfl⟩ : ∃ n', n = n' + 1 := ⟨n - 1, by omega⟩
      simp [Instr.checkKey, run_underlying hu]
    · rename_i gs fs hu
      obtain ⟨cs, rfl, g1⟩ := asAgg_ok hk
      simp only [den] at hx
      split at hx
      case h_2 => cases hx
      rename_i xs hxs
      cases hx
      simp only [Bool.and_eq_true, Bool.not_eq_true'] at hc
      have key : ∀ (l : List Field) (gs : List (Nat × Nat × Bool × ET)), fieldsAs (chkET P d) P l gs = true → (List.rec K (fun f _ r => partA f.2.2.1 f.1 f.2.1 cs fun u => shpX d f.2.2.2 u r) gs : Bool) = true → K = true ∧
          ∀ (e : Bool) (n : Nat) (w : World), d ≤ n → ∀ f ∈ l, f.name ≠ "_" ∧ ∃ z, (part f.type xs.toArray f.offset).run P w = .ok z w ∧ (Instr.checkKey e n f.type z).run P w = .ok () w := by
        intro l
        induction l with
        | nil =>
          intro gs hf hk
          cases gs with
          | nil => exact ⟨hk, fun _ _ _ _ f hf => by simp at hf⟩
          | cons g gs => simp [fieldsAs] at hf
        | cons f l ihl =>
          intro gs hf hk
          cases gs with
          | nil => simp [fieldsAs] at hf
          | cons g gs =>
            simp only [fieldsAs, Bool.and_eq_true, decide_eq_true_eq] at hf
            obtain ⟨⟨⟨⟨⟨f1, f2⟩, f3⟩, f4⟩, f5⟩, f6⟩ := hf
            have f1 : f.name ≠ "_" := by simpa using f1
            have hk' : partA g.2.2.1 g.1 g.2.1 cs (fun u => shpX d g.2.2.2 u (List.rec K (fun f _ r => partA f.2.2.1 f.1 f.2.1 cs fun u => shpX d f.2.2.2 u r) gs)) = true := hk
            obtain ⟨u, zu, u1, u2, u3⟩ := partA_ok hxs hk' f4 f3
            obtain ⟨k1, k2⟩ := shpX_ok d f5 u1 u2
            obtain ⟨k3, k4⟩ := ihl gs f6 k1
            refine ⟨k3, fun e n w hn f' hf' => ?_⟩
            rcases List.mem_cons.1 hf' with rfl | hf'
            · exact ⟨f1, zu, by rw [f2]; exact u3 w, k2 e n w hn⟩
            · exact k4 e n w hn f' hf'
      obtain ⟨k1, k2⟩ := key fs.toList gs hc.2 g1
      refine ⟨k1, fun e n w hn => ?_⟩
      obtain ⟨n, rfl⟩ : ∃ n', n = n' + 1 := ⟨n - 1, by omega⟩
      have k3 := k2 e n w (by omega)
      simp only [Instr.checkKey, Sem.run_bind, run_underlying hu, Result.andThen_ok]
      rw [← Array.forIn_toList]
      generalize fs.toList = l at k3
      clear hu key k2 hc
      induction l with
      | nil => simp
      | cons f l ihl =>
        obtain ⟨q1, z, q2, q3⟩ := k3 f (by simp)
        have := ihl fun g hg => k3 g (by simp [hg])
        simp [q1, q2, q3] at this ⊢
        exact this
    · rename_i offs n agg e len el hu
      obtain ⟨cs, rfl, g1⟩ := asAgg_ok hk
      simp only [den] at hx
      split at hx
      case h_2 => cases hx
      rename_i xs hxs
      cases hx
      simp only [Bool.and_eq_true, decide_eq_true_eq] at hc
      obtain ⟨⟨⟨c1, c2⟩, c3⟩, c4⟩ := hc
      have key : ∀ (l : List Nat), (List.rec K (fun o _ r => partA agg o n cs fun u => shpX d e u r) l : Bool) = true → K = true ∧ ∀ (b : Bool) (m : Nat) (w : World), d ≤ m → ∀ o ∈ l, ∃ z, (part el xs.toArray o).run P w = .ok z w ∧ (Instr.checkKey b m el z).run P w = .ok () w := by
        intro l
        induction l with
        | nil => intro hk; exact ⟨hk, fun _ _ _ _ o ho => by simp at ho⟩
        | cons o l ihl =>
          intro hk
          have hk' : partA agg o n cs (fun u => shpX d e u (List.rec K (fun o _ r => partA agg o n cs fun u => shpX d e u r) l)) = true := hk
          obtain ⟨u, zu, u1, u2, u3⟩ := partA_ok hxs hk' c2 c1
          obtain ⟨k1, k2⟩ := shpX_ok d c4 u1 u2
          obtain ⟨k3, k4⟩ := ihl k1
          refine ⟨k3, fun b m w hm o' ho' => ?_⟩
          rcases List.mem_cons.1 ho' with rfl | ho'
          · exact ⟨zu, u3 w, k2 b m w hm⟩
          · exact k4 b m w hm o' ho'
      obtain ⟨k1, k2⟩ := key offs g1
      refine ⟨k1, fun b m w hm => ?_⟩
      obtain ⟨m, rfl⟩ : ∃ n', m = n' + 1 := ⟨m - 1, by omega⟩
      have k3 := k2 b m w (by omega)
      simp only [Instr.checkKey, Sem.run_bind, run_underlying hu, Result.andThen_ok]
      rw [Std.Legacy.Range.forIn_eq_forIn_range']
      simp only [Std.Legacy.Range.size, Nat.sub_zero, Nat.add_sub_cancel, Nat.div_one]
      rw [c3, List.range_eq_range'] at k3
      generalize List.range' 0 len = l at k3 ⊢
      clear hu key c3 g1 k2
      induction l with
      | nil => simp
      | cons i l ihl =>
        obtain ⟨z, q2, q3⟩ := k3 (i * n) (by simp)
        have := ihl fun g hg => k3 g (by simp at hg ⊢; exact .inr hg)
        simp [Go.Eng.run_sizeOf c1, q2, q3] at this ⊢
        exact this
    · cases hc
theorem find_run {d : Nat} {et : ET} {k : AV} {x : Value} {kt : TypeId} (hd : d ≤ 10000) (hc : chkET P d et kt = true) (hx : den E ρ k = some x) {es : List (AV × AV × Nat)} {ms : List MapEntry} {Kn : Bool} {Ks : Nat → AV × AV × Nat → Bool} (he : denE E ρ es = some ms) (hk : findX d et k es Kn Ks = true) :
    (Kn = true ∧ ∀ w, (Instr.findKey kt x ms).run P w = .ok none w) ∨ (∃ j e y, es[j]? = some e ∧ Ks j e = true ∧ den E ρ e.2.1 = some y ∧ ∀ w, (Instr.findKey kt x ms).run P w = .ok (some (j, y)) w) := by
  obtain ⟨dd, hu⟩ : ∃ dd, P.underlying kt = some dd := by
    cases d with
    | zero => simp [chkET] at hc
    | succ d =>
      unfold chkET at hc
      rcases hq : P.underlying kt with _ | dd
      · rw [hq] at hc; cases et <;> simp at hc
      · exact ⟨dd, rfl⟩
  rcases findX_ok hd hc hx (i := 0) he hk with ⟨q1, q2⟩ | ⟨j, e, y, q1, q2, q3, q4⟩
  · refine .inl ⟨q1, fun w => ?_⟩
    rcases (q2 w).2 dd hu with q | q
    · simp [Instr.findKey, run_underlying hu, q]
    · simp [Instr.findKey, run_underlying hu, q, (q2 w).1]
  · rw [Nat.zero_add] at q2
    refine .inr ⟨j, e, y, q1, q2, q3, fun w => ?_⟩
    have := q4 w
    rw [Nat.zero_add] at this
    rcases this.2 dd hu with q | q
    · simp [Instr.findKey, run_underlying hu, q]
    · simp [Instr.findKey, run_underlying hu, q, this.1]
theorem Sim.map (h : Sim E ρ G F M nx w) {i : Nat} {es : List (AV × AV × Nat)} {cl : Nat} (hi : M.get i = some (.map es cl)) : ∃ e ms, ρ i = some e ∧ denE E ρ es = some ms ∧ w.heap[e.b]? = some (.map ms.toArray cl) := by
  obtain ⟨e, ob, h1, h2, ms, h3, rfl⟩ := h.obj hi
  exact ⟨e, ms, h1, h3, h2⟩
/-! ### A look into a map -/
noncomputable def lkX (d : Nat) (et : ET) (zv : AV) (comma : Bool) (m k : AV) (M : T) (K : AV → Bool) : Bool :=
  shpX d et k (asMap m (ifB comma (K (.tup [zv, .bool false])) (K zv)) fun i => mapOf M i fun es _ => findX d et k es (ifB comma (K (.tup [zv, .bool false])) (K zv)) fun _ e => ifB comma (K (.tup [e.2.1, .bool true])) (K e.2.1))
theorem lkX_ok (h : Sim E ρ G F M nx w) {d : Nat} {et : ET} {zv : AV} {zx : Value} {comma : Bool} {m k : AV} {K : AV → Bool} {x y : Value} {t kt e : TypeId} (hd : d ≤ 10000) (ht : P.underlying t = some (.map kt e)) (hc : chkET P d et kt = true) (hz : ∀ w, (zeroValue e).run P w = .ok zx w) (hzv : den E ρ zv = some zx)
    (hm : den E ρ m = some x) (hk : den E ρ k = some y) (hg : lkX d et zv comma m k M K = true) : ∃ u z, den E ρ u = some z ∧ K u = true ∧ (Instr.lookup t x y comma).run P w = .ok z w := by
  obtain ⟨g1, g2⟩ := shpX_ok d hc hk hg
  have none_ : (ifB comma (K (.tup [zv, .bool false])) (K zv)) = true → ∃ u z, den E ρ u = some z ∧ K u = true ∧ z = (if comma then .tuple #[zx, .bool false] else zx) := by
    intro hh
    rcases ifB_ok hh with ⟨rfl, hh⟩ | ⟨rfl, hh⟩
    · exact ⟨_, _, by simp only [den, denL, hzv]; rfl, hh, by simp⟩
    · exact ⟨_, _, hzv, hh, by simp⟩
  rcases asMap_ok g1 with ⟨rfl, g3⟩ | ⟨i, rfl, g3⟩
  · cases hm
    obtain ⟨u, z, u1, u2, u3⟩ := none_ g3
    refine ⟨u, z, u1, u2, ?_⟩
    have hf : (Instr.findKey kt y []).run P w = .ok none w := by
      obtain ⟨dd, hu⟩ : ∃ dd, P.underlying kt = some dd := by
        cases d with
        | zero => simp [chkET] at hc
        | succ d =>
          unfold chkET at hc
          rcases hq : P.underlying kt with _ | dd
          · rw [hq] at hc; cases et <;> simp at hc
          · exact ⟨dd, rfl⟩
      simp [Instr.findKey, run_underlying hu, Instr.findNow]
    subst u3
    cases comma <;> simp [Instr.lookup, run_underlying ht, g2 _ 10000 w hd, hf, hz]
  · obtain ⟨es, cl, hi, g4⟩ := mapOf_ok g3
    obtain ⟨f, ms, f1, f2, f3⟩ := h.map hi
    simp only [den, f1] at hm
    cases hm
    rcases find_run hd hc hk f2 g4 with ⟨q1, q2⟩ | ⟨j, e', y', q1, q2, q3, q4⟩
    · obtain ⟨u, z, u1, u2, u3⟩ := none_ q1
      refine ⟨u, z, u1, u2, ?_⟩
      subst u3
      cases comma <;> simp [Instr.lookup, run_underlying ht, MapKept.run_getObj_map f3, g2 _ 10000 w hd, q2, hz]
    · rcases ifB_ok q2 with ⟨rfl, q5⟩ | ⟨rfl, q5⟩
      · exact ⟨_, .tuple #[y', .bool true], by simp only [den, denL, q3], q5, by simp [Instr.lookup, run_underlying ht, MapKept.run_getObj_map f3, g2 _ 10000 w hd, q4]⟩
      · exact ⟨_, y', q3, q5, by simp [Instr.lookup, run_underlying ht, MapKept.run_getObj_map f3, g2 _ 10000 w hd, q4]⟩
end
end Go.Sy
