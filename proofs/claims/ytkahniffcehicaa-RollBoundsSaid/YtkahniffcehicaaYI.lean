/- The executor: appending, lengths, small things. No condition: definitions and plain lemmas. -/
import Derived.Test.YtkahniffcehicaaYH
import Derived.Deep.Upon
namespace Go.Sy
open Go Go.RowKit Go.Eng

section
variable {P : Program} {E : Env} {ρ : Ren} {G : GS} {F : List Chunk} {M : T} {nx : Nat} {w : World}

/-! ### The elements of a slice -/
/-- The elements of a slice, as they lie. -/
noncomputable def elsX (sz : Nat) (v : AV) (M : T) (K : List (List AV) → Bool) : Bool :=
  asSl v (K []) fun i o n _ => Nat.casesOn n (K []) fun _ => blkOf M i fun _ _ sz' els => must (Nat.beq sz sz') (must (Nat.beq (Nat.mod o sz) 0) (tak (drp els (Nat.div o sz)) n K))
theorem elsX_ok (h : Sim E ρ G F M nx w) {sz : Nat} {v : AV} {K : List (List AV) → Bool} {x : Value} (hv : den E ρ v = some x) (hk : elsX sz v M K = true) :
    ∃ els xs ao n c, K els = true ∧ denL E ρ els.flatten = some xs ∧ x = .slice ao n c ∧ els.length = n ∧ (∀ l ∈ els, l.length = sz) ∧ xs.length = n * sz ∧ (0 < n → ∃ b o, ao = some ⟨b, o, none⟩ ∧ ∀ j u, xs[j]? = some u → w.cell? ⟨b, o + j, none⟩ = some u) := by
  rcases asSl_ok hk with ⟨rfl, k1⟩ | ⟨i, o, n, c, rfl, k1⟩
  · cases hv
    exact ⟨[], [], none, 0, 0, k1, rfl, rfl, rfl, by simp, by simp, fun q => by omega⟩
  · simp only [den] at hv
    split at hv
    case h_2 => cases hv
    rename_i e he
    cases hv
    cases n with
    | zero => exact ⟨[], [], _, 0, _, k1, rfl, rfl, rfl, by simp, by simp, fun q => by omega⟩
    | succ n =>
      obtain ⟨g, Ty, sz', els, hi, k2⟩ := blkOf_ok k1
      obtain ⟨q1, k3⟩ := must_ok k2
      obtain ⟨q2, k4⟩ := must_ok k3
      have q1 := Nat.eq_of_beq_eq_true q1
      have q2 := Nat.eq_of_beq_eq_true q2
      subst q1
      obtain ⟨k5, hle⟩ := tak_ok k4
      rw [drp_eq] at k5 hle
      obtain ⟨e', arr, xs, e1, e2, e3, e4, e5, e6, e7, _⟩ := h.cellsAt hi
      rw [he] at e1; cases e1
      have ho : o / sz * sz = o := by
        have := Nat.div_add_mod o sz
        have q2 : o % sz = 0 := q2
        rw [q2, Nat.add_zero, Nat.mul_comm] at this
        exact this
      have hall : ∀ l ∈ (els.drop (o / sz)).take (n + 1), l.length = sz := fun l hl => e4 l (List.mem_of_mem_drop (List.mem_of_mem_take hl))
      have hsplit : els.flatten = (els.take (o / sz)).flatten ++ ((els.drop (o / sz)).take (n + 1)).flatten ++ ((els.drop (o / sz)).drop (n + 1)).flatten := by
        rw [← List.flatten_append, ← List.flatten_append, List.append_assoc, List.take_append_drop, List.take_append_drop]
      have hle : n + 1 ≤ (els.drop (o / sz)).length := hle
      have hpre : (els.take (o / sz)).flatten.length = o := by
        rw [flat_len (sz := sz) (fun l hl => e4 l (List.mem_of_mem_take hl)), List.length_take, Nat.min_eq_left (by rw [List.length_drop] at hle; omega), ho]
      rw [hsplit] at e3
      obtain ⟨ab, c3, d1, d2, d3⟩ := denL_split e3
      obtain ⟨c1, c2, d4, d5, d6⟩ := denL_split d1
      have hc1 := denL_len d4
      have hc2 := denL_len d5
      refine ⟨_, c2, _, n + 1, _, k5, d5, rfl, by rw [List.length_take]; exact Nat.min_eq_left hle, hall, ?_, fun _ => ⟨e.b, o, rfl, fun j u hu => ?_⟩⟩
      · rw [hc2, flat_len hall, List.length_take, Nat.min_eq_left hle]
      · have hx : xs[o + j]? = some u := by
          rw [d3, d6, List.append_assoc, List.getElem?_append_right (by omega), show o + j - c1.length = j by omega, List.getElem?_append_left (List.getElem?_eq_some_iff.1 hu).1]
          exact hu
        have hlt := (List.getElem?_eq_some_iff.1 hx).1
        rw [← e7, List.getElem?_take_of_lt hlt] at hx
        simp only [World.cell?, e2]
        simpa using hx
theorem run_append_none (t ty e : TypeId) (ht : P.underlying t = some (.slice e)) {sz : Nat} (hs : szOf P e = some sz) (base : Option Addr) (n cap : Nat) (hle : n ≤ cap) (ao : Option Addr) (c : Nat) :
    (Builtin.append_ #[t, t] ty #[.slice base n cap, .slice ao 0 c]).run P w = .ok (.slice base n cap) w := by
  have h1 : (Builtin.firstCells sz 0 (.slice ao 0 c)).run P w = .ok #[] w := by cases ao <;> simp [Builtin.firstCells, loadCells, loadCellsFrom]
  cases base <;> simp [Builtin.append_, run_underlying ht, Go.Eng.run_sizeOf hs, Builtin.lenOf, hle, h1, storeCells]
/-- Few enough, in few enough bytes. -/
noncomputable def lim (bytes a : Nat) : Bool := Bool.and (Nat.ble a 100000000) (Nat.ble (Nat.mul a bytes) 100000000)
theorem lim_ok {bytes a : Nat} (h : lim bytes a = true) : a ≤ 100000000 ∧ a * bytes ≤ 100000000 := by
  have h' : (Nat.ble a 100000000 && Nat.ble (Nat.mul a bytes) 100000000) = true := h
  rw [Bool.and_eq_true, Nat.ble_eq, Nat.ble_eq] at h'
  exact h'
/-- An append of a slice to a slice. -/
noncomputable def appX (Ty sz bytes : Nat) (v1 v2 : AV) (M : T) (nx : Nat) (K : AV → T → Nat → Bool) : Bool :=
  elsX sz v2 M fun news => must (allOne news.flatten) (
    asSl v1
      (List.casesOn news (K .nilS M nx) fun _ _ => must (lim bytes (lenL news)) (T.set fuelT M nx (some (.blk true Ty sz news)) fun M' => fN (Nat.succ nx) fun n => fN (lenL news) fun m => K (.sl nx 0 m (.rest 0)) M' n))
      fun i o n c => List.casesOn news
        (ACap.casesOn c (fun cc => must (Nat.ble n cc) (K v1 M nx)) (fun k => blkOf M i fun g _ _ els => must g (must (Nat.ble (Nat.add k n) (lenL els)) (K v1 M nx))))
        fun _ _ => must (lim bytes (Nat.add n (lenL news))) (ACap.casesOn c
          (fun cc => ifB (Nat.ble (Nat.add n (lenL news)) cc)
            (must (Nat.beq o 0) (blkOf M i fun g Ty' sz' els => must (Bool.not g) (must (Nat.beq Ty' Ty) (must (Nat.beq sz' sz) (upd els n news fun els' => T.set fuelT M i (some (.blk false Ty sz els')) fun M' => fN (Nat.add n (lenL news)) fun m => K (.sl i 0 m (.ex cc)) M' nx)))))
            (elsX sz v1 M fun olds => app olds news fun els => T.set fuelT M nx (some (.blk true Ty sz els)) fun M' => fN (Nat.succ nx) fun q => fN (Nat.add n (lenL news)) fun m => K (.sl nx 0 m (.rest 0)) M' q))
          (fun k => must (Nat.beq k 0) (must (Nat.beq o 0) (blkOf M i fun g Ty' sz' els => must g (must (Nat.beq (lenL els) n) (must (Nat.beq Ty' Ty) (must (Nat.beq sz' sz)
            (app els news fun els' => T.set fuelT M i none fun M1 => T.set fuelT M1 nx (some (.blk true Ty sz els')) fun M' => fN (Nat.succ nx) fun q => fN (Nat.add n (lenL news)) fun m => K (.sl nx 0 m (.rest 0)) M' q)))))))))
theorem own_row {e size n : Nat} {xs : List Value} {v : Value} {base : Nat} {w' : World} (h : w'.ownsRow base e size v n xs) (h0 : 0 < n) : ∃ g cap cur, v = .slice (some ⟨g, 0, none⟩) n cap ∧ base ≤ g ∧ w'.heap[g]? = some (.cells cur e (0, 0)) ∧ n ≤ cap ∧ cap ≤ maxLen ∧ cur.size = cap * size ∧ cur.toList.take (n * size) = xs ∧ xs.length = n * size := by
  obtain ⟨hl, h1⟩ := h
  rcases h1 with ⟨_, hz⟩ | ⟨g, cap, cur, rfl, h0, h2, h3, h4, h5, h6⟩
  · omega
  · exact ⟨g, cap, cur, rfl, h0, h2, h3, h4, h5, h6, hl⟩
theorem appX_ok (hE : EOk E) (h : Sim E ρ G F M nx w) {t ty Ty sz bytes : Nat} (ht : P.underlying t = some (.slice Ty)) (he : elemOk P Ty sz bytes = true) {v1 v2 : AV} {K : AV → T → Nat → Bool} {x1 x2 : Value} (h1 : den E ρ v1 = some x1) (h2 : den E ρ v2 = some x2)
    (hk : appX Ty sz bytes v1 v2 M nx K = true) : ∃ v M' nx' ρ' w' x, ρ.Le ρ' ∧ Sim E ρ' G F M' nx' w' ∧ K v M' nx' = true ∧ den E ρ' v = some x ∧ (Builtin.append_ #[t, t] ty #[x1, x2]).run P w = .ok x w' := by
  obtain ⟨news, ns, ao, m, c2, k0, n1, rfl, n2, n3, n4, n5⟩ := elsX_ok h h2 hk
  obtain ⟨kone, k1⟩ := must_ok k0
  have hone := allOne_den hE kone n1
  have hone' : ∀ u ∈ ns, Value.oneCell' u = true := fun u hu => List.all_eq_true.1 hone u hu
  obtain ⟨inf, z, i1, i2, i3, i4, i5, i6⟩ := elem_parts he
  have hs : szOf P Ty = some sz := by simp [szOf, i1, i3]
  have hm63 : maxLen = 9223372036854775807 := rfl
  have h0 := h.fresh nx (Nat.le_refl _)
  -- a new row, in a new block or the old one
  have fin : ∀ {i : Nat} {old : Option Nat} {M' : T} {els : List (List AV)} {v' : Value} {w' : World} {mm : Nat} {ys : List Value} {base : Nat}, (∀ b, old = some b → ∃ e o, M.get i = some o ∧ ρ i = some e ∧ e.b = b ∧ hasB e o = true) → w.grownBy w' old → w'.ownsRow base Ty sz v' mm ys → 0 < mm →
      (v'.ownBlock = old ∨ v'.ownBlock = some w.heap.size ∨ w.heap.size ≤ base) → denL E ρ els.flatten = some ys → (∀ l ∈ els, l.length = sz) → els.length = mm → M'.get nx = some (.blk true Ty sz els) → (∀ m, m ≠ nx → m ≠ i → M'.get m = M.get m) → (i ≠ nx → M'.get i = none) → K (.sl nx 0 mm (.rest 0)) M' (nx + 1) = true →
      (Builtin.append_ #[t, t] ty #[x1, .slice ao m c2]).run P w = .ok v' w' → ∃ v M' nx' ρ' w' x, ρ.Le ρ' ∧ Sim E ρ' G F M' nx' w' ∧ K v M' nx' = true ∧ den E ρ' v = some x ∧ (Builtin.append_ #[t, t] ty #[x1, .slice ao m c2]).run P w = .ok x w' := by
    intro i old M' els v' w' mm ys base g1 g2 g3 g4 g5 g6 g7 g8 g9 g10 g11 g12 g13
    obtain ⟨g, cap, cur, rfl, r1, r2, r3, r4, r5, r6, r7⟩ := own_row g3 g4
    have hb' : old = some g ∨ w.heap.size ≤ g := by
      rcases g5 with e | e | e
      · exact .inl (by rw [← e]; rfl)
      · simp [Value.ownBlock] at e; exact .inr (by omega)
      · exact .inr (by omega)
    refine ⟨_, M', nx + 1, ρ.set nx ⟨g, cap⟩, w', _, Ren.le_set _ h0, h.regrow (i := i) (o' := .blk true Ty sz els) h0 (Nat.le_succ _) (Nat.lt_succ_self _) g1 g2 r2 hb' ⟨g7, i6, cur, ys, rfl, g6, ?_⟩ g9 g10 g11, g12, ?_, g13⟩
    · simp only [cond_true]
      rw [g8]
      exact ⟨r5, r6, r3, r4⟩
    · simp only [den, Ren.set_self, capOf, Nat.sub_zero]
  rcases asSl_ok k1 with ⟨rfl, k2⟩ | ⟨i, o, n, c, rfl, k2⟩
  · cases h1
    cases news with
    | nil =>
      simp at n2
      subst n2
      exact ⟨.nilS, M, nx, ρ, w, _, Ren.Le.refl _, h, k2, rfl, run_append_none t ty Ty ht hs none 0 0 (Nat.le_refl _) ao c2⟩
    | cons a r =>
      obtain ⟨hl, k3⟩ := must_ok k2
      obtain ⟨M', k4, s1, s2⟩ := T.set_ok _ _ _ _ _ k3
      rw [fN_eq, fN_eq, lenL_eq, n2] at k4
      rw [lenL_eq, n2] at hl
      obtain ⟨l1, l2⟩ := lim_ok hl
      have hm : 0 < m := by rw [← n2]; simp
      obtain ⟨b, ob, rfl, hc⟩ := n5 hm
      obtain ⟨v', w', r1, r2, r3, _, r5⟩ := run_append_own_at (P := P) w 0 t ty Ty inf z sz bytes ht i1 i2 i3 i5 i4 i6 (.slice none 0 0) 0 [] (World.ownsRow_nil w _ Ty sz) ⟨b, ob, none⟩ m c2 ns n4 (fun j u hu => by rw [add_mk]; exact hc j u hu) hone' (by omega) (by rw [Nat.zero_add]; omega) (Nat.zero_le _)
      rw [Nat.zero_add, List.nil_append] at r2
      exact fin (i := nx) (old := none) (fun b q => by cases q) r3 r2 hm (r5.imp id .inl) n1 n3 n2 s1 (fun m' q _ => s2 m' q) (fun q => absurd rfl q) k4 r1
  · simp only [den] at h1
    split at h1
    case h_2 => cases h1
    rename_i e hei
    cases h1
    cases news with
    | nil =>
      simp at n2
      subst n2
      cases c with
      | ex cc =>
        obtain ⟨hle, k3⟩ := must_ok k2
        rw [Nat.ble_eq] at hle
        exact ⟨_, M, nx, ρ, w, _, Ren.Le.refl _, h, k3, by simp only [den, hei], run_append_none t ty Ty ht hs _ n (capOf e (.ex cc)) hle ao c2⟩
      | rest k =>
        obtain ⟨g, Ty', sz', els, hi, k3⟩ := blkOf_ok k2
        obtain ⟨hg, k4⟩ := must_ok k3
        subst hg
        obtain ⟨hkn, k5⟩ := must_ok k4
        rw [Nat.ble_eq, lenL_eq] at hkn
        have hkn : k + n ≤ els.length := hkn
        obtain ⟨f2, arr, xs, q1, _, _, _, _, _, _, _, q9⟩ := h.cellsAt hi
        rw [hei] at q1; cases q1
        obtain ⟨_, q10, _⟩ := q9 rfl
        exact ⟨_, M, nx, ρ, w, _, Ren.Le.refl _, h, k5, by simp only [den, hei], run_append_none t ty Ty ht hs _ n (capOf e (.rest k)) (by simp only [capOf]; omega) ao c2⟩
    | cons a r =>
      obtain ⟨hl, k3⟩ := must_ok k2
      rw [lenL_eq, n2] at hl
      obtain ⟨l1, l2⟩ := lim_ok hl
      have l1 : n + m ≤ 100000000 := l1
      have l2 : (n + m) * bytes ≤ 100000000 := l2
      have hm : 0 < m := by rw [← n2]; simp
      obtain ⟨b, ob, rfl, hc⟩ := n5 hm
      cases c with
      | ex cc =>
        rcases ifB_ok k3 with ⟨hcc, k4⟩ | ⟨hcc, k4⟩
        · have hcc : n + (a :: r).length ≤ cc := by
            rw [lenL_eq] at hcc
            exact Nat.le_of_ble_eq_true hcc
          rw [n2] at hcc
          obtain ⟨ho, k5⟩ := must_ok k4
          have ho := Nat.eq_of_beq_eq_true ho
          subst ho
          obtain ⟨g, Ty', sz', els, hi, k6⟩ := blkOf_ok k5
          obtain ⟨hg, k7⟩ := must_ok k6
          obtain ⟨hT, k8⟩ := must_ok k7
          obtain ⟨hS, k9⟩ := must_ok k8
          have hT := Nat.eq_of_beq_eq_true hT
          have hS := Nat.eq_of_beq_eq_true hS
          subst hT; subst hS
          have hg : g = false := by cases g <;> first | rfl | cases hg
          subst hg
          obtain ⟨k10, hle⟩ := upd_ok k9
          obtain ⟨M', k11, s1, s2⟩ := T.set_ok _ _ _ _ _ k10
          rw [fN_eq, lenL_eq, n2] at k11
          obtain ⟨f2, arr, xs, q1, q2, q3, q4, q5, q6, q7, q8, _⟩ := h.cellsAt hi
          rw [hei] at q1; cases q1
          have harr := q8 rfl
          have hxl : xs.length = els.length * sz' := by rw [denL_len q3, flat_len q4]
          have hle' : n + m ≤ els.length := by rw [← n2]; exact hle
          have hmul : (n + m) * sz' ≤ els.length * sz' := Nat.mul_le_mul_right _ hle'
          have hadd : (n + m) * sz' = n * sz' + m * sz' := Nat.add_mul ..
          have hsz : arr.size = xs.length := by rw [← Array.length_toList, harr]
          have hfit : n * inf.size + ns.length ≤ arr.size := by rw [i3, n4]; omega
          have hr := run_append_room (P := P) w t ty Ty' inf ht i1 e.b n cc arr q2 ⟨b, ob, none⟩ m c2 ns (by rw [n4, i3]) (fun j u hu => by rw [add_mk]; exact hc j u hu) hone' hcc hfit
          have hfl : (els.take n ++ (a :: r) ++ els.drop (n + (a :: r).length)).flatten = els.flatten.take (n * sz') ++ (a :: r).flatten ++ els.flatten.drop (n * sz' + ((a :: r).flatten).length) := by
            have e1 : els.flatten = (els.take n).flatten ++ (els.drop n).flatten := by rw [← List.flatten_append, List.take_append_drop]
            have e2 : els.flatten = (els.take (n + (a :: r).length)).flatten ++ (els.drop (n + (a :: r).length)).flatten := by rw [← List.flatten_append, List.take_append_drop]
            have f1 : (els.take n).flatten.length = n * sz' := by
              rw [flat_len (sz := sz') (fun l hl => q4 l (List.mem_of_mem_take hl)), List.length_take, Nat.min_eq_left (by omega)]
            have f2 : (els.take (n + (a :: r).length)).flatten.length = n * sz' + ((a :: r).flatten).length := by
              rw [flat_len (sz := sz') (fun l hl => q4 l (List.mem_of_mem_take hl)), List.length_take, Nat.min_eq_left hle, flat_len n3, Nat.add_mul]
            rw [List.flatten_append, List.flatten_append]
            congr 1
            · congr 1
              conv => rhs; rw [e1]
              exact (List.take_left' f1).symm
            · conv => rhs; rw [e2]
              exact (List.drop_left' f2).symm
          refine ⟨.sl i 0 (n + m) (.ex cc), M', nx, ρ, w.setRow e.b (arr.toList.take (n * inf.size) ++ ns ++ arr.toList.drop (n * inf.size + ns.length)).toArray, .slice (some ⟨e.b, 0, none⟩) (n + m) cc, Ren.Le.refl _, h.turn (o' := .blk false Ty' sz' (els.take n ++ (a :: r) ++ els.drop (n + (a :: r).length))) (ob' := .cells (arr.toList.take (n * inf.size) ++ ns ++ arr.toList.drop (n * inf.size + ns.length)).toArray Ty' (0, 0)) hi hei rfl rfl rfl (fun b' _ hb => setRow_other w e.b b' _ hb) (setRow_heap w e.b arr _ Ty' _ q2) ⟨?_, q5, _, arr.toList.take (n * inf.size) ++ ns ++ arr.toList.drop (n * inf.size + ns.length), rfl, ?_, ?_⟩ s1 s2, k11, by simp only [den, hei, capOf], hr⟩
          · intro l hl
            simp only [List.mem_append] at hl
            rcases hl with (hl | hl) | hl
            · exact q4 l (List.mem_of_mem_take hl)
            · exact n3 l hl
            · exact q4 l (List.mem_of_mem_drop hl)
          · rw [hfl, i3, harr]
            have hnl := denL_len n1
            rw [← hnl]
            exact denL_app (denL_app (denL_take _ q3) n1) (denL_drop _ q3)
          · simp
        have hcc : cc < n + m := by
          rw [lenL_eq, n2] at hcc
          rcases Nat.lt_or_ge cc (n + m) with q | q
          · exact q
          · have : Nat.ble (n + m) cc = true := by rw [Nat.ble_eq]; exact q
            have hcc : Nat.ble (n + m) cc = false := hcc
            rw [this] at hcc; cases hcc
        obtain ⟨olds, os, ao1, n', c', k5, o1, o2, o3, o4, o5, o6⟩ := elsX_ok h (v := .sl i o n (.ex cc)) (x := .slice (some ⟨e.b, o, none⟩) n cc) (by simp only [den, hei, capOf]) k4
        injection o2 with o21 o22 o23
        subst o22
        rw [app_eq] at k5
        obtain ⟨M', k6, s1, s2⟩ := T.set_ok _ _ _ _ _ k5
        rw [fN_eq, fN_eq, lenL_eq, n2] at k6
        obtain ⟨v', w', r1, r2, r3⟩ := run_append_arg_grows (P := P) w t ty Ty inf z sz bytes ht i1 i2 i3 i5 i4 i6 ⟨e.b, o, none⟩ n cc os o5 (fun j u hu => by
            rw [add_mk]
            have hj := (List.getElem?_eq_some_iff.1 hu).1
            have hn0 : 0 < n := by
              rcases Nat.eq_zero_or_pos n with q | q
              · rw [q, Nat.zero_mul] at o5; omega
              · exact q
            obtain ⟨b1, ob1, q1, q2⟩ := o6 hn0
            rw [← o21] at q1
            cases q1
            exact q2 j u hu) ⟨b, ob, none⟩ m c2 ns n4 (fun j u hu => by rw [add_mk]; exact hc j u hu) hcc (by omega) (by omega)
        exact fin (i := nx) (old := none) (els := olds ++ a :: r) (fun b q => by cases q) r3 r2 (by omega) (.inr (.inr (Nat.le_refl _))) (by rw [List.flatten_append]; exact denL_app o1 n1)
          (fun l hl => by
            rcases List.mem_append.1 hl with q | q
            · exact o4 l q
            · exact n3 l q) (by rw [List.length_append, o3, n2]) s1 (fun m' q _ => s2 m' q) (fun q => absurd rfl q) k6 r1
      | rest k =>
        obtain ⟨hk0, k4⟩ := must_ok k3
        obtain ⟨ho0, k5⟩ := must_ok k4
        have hk0 := Nat.eq_of_beq_eq_true hk0
        have ho0 := Nat.eq_of_beq_eq_true ho0
        subst hk0; subst ho0
        obtain ⟨g, Ty', sz', els, hi, k6⟩ := blkOf_ok k5
        obtain ⟨hg, k7⟩ := must_ok k6
        subst hg
        obtain ⟨hln, k8⟩ := must_ok k7
        obtain ⟨hT, k9⟩ := must_ok k8
        obtain ⟨hS, k10⟩ := must_ok k9
        have hln : els.length = n := by rw [← lenL_eq]; exact Nat.eq_of_beq_eq_true hln
        have hT := Nat.eq_of_beq_eq_true hT
        have hS := Nat.eq_of_beq_eq_true hS
        subst hT; subst hS
        rw [app_eq] at k10
        obtain ⟨M1, k11, s1, s2⟩ := T.set_ok _ _ _ _ _ k10
        obtain ⟨M', k12, s3, s4⟩ := T.set_ok _ _ _ _ _ k11
        rw [fN_eq, fN_eq, lenL_eq, n2] at k12
        obtain ⟨f2, arr, xs, q1, q2, q3, q4, q5, q6, q7, _, q9⟩ := h.cellsAt hi
        rw [hei] at q1; cases q1
        obtain ⟨p1, p2, p3⟩ := q9 rfl
        have hxl : xs.length = n * sz' := by rw [denL_len q3, flat_len q4, hln]
        obtain ⟨v', w', r1, r2, r3, _, r5⟩ := run_append_own_at (P := P) w 0 t ty Ty' inf z sz' bytes ht i1 i2 i3 i5 i4 i6 (.slice (some ⟨e.b, 0, none⟩) n (capOf e (.rest 0))) n xs
          ⟨hxl, .inr ⟨e.b, e.cap, arr, by simp [capOf], Nat.zero_le _, q2, by omega, p3, p1, by rw [← hxl]; exact q7⟩⟩ ⟨b, ob, none⟩ m c2 ns n4 (fun j u hu => by rw [add_mk]; exact hc j u hu) hone' (by omega) (by omega) (Nat.zero_le _)
        have hinx : i ≠ nx := fun q => by rw [q, h0] at hei; cases hei
        exact fin (i := i) (old := some e.b) (els := els ++ a :: r) (fun b q => ⟨e, _, hi, hei, Option.some.inj q, rfl⟩) r3 r2 (by omega) (r5.imp id .inl) (by rw [List.flatten_append]; exact denL_app q3 n1)
          (fun l hl => by
            rcases List.mem_append.1 hl with q | q
            · exact q4 l q
            · exact n3 l q) (by rw [List.length_append, hln, n2]) s3 (fun m' q1 q2 => by rw [s4 m' q1, s2 m' q2]) (fun _ => by rw [s4 i hinx, s1]) k12 r1
end
end Go.Sy
