/- Walks of the program's functions, printed by a program. No condition beyond each theorem's own. -/
import Derived.Test.YtediojjcoohhoaaDoorChecked
import Derived.Test.YtediojjcoohhoaaDoorDat
import Derived.Test.YtediojjcoohhoaaDoorShelf
import Derived.Test.YtediojjcoohhoaaDoorW1
import Derived.KernelRfl
namespace Go.Proofs.YtediojjcoohhoaaDoor
open Go Go.RowKit Go.Eng
set_option linter.unusedVariables false
set_option linter.unnecessarySimpa false
set_option maxHeartbeats 4000000
set_option maxRecDepth 100000
theorem ok26 : okF Tryd.prog 26 = some (false, false) := by kernel_rfl

abbrev GTab (G : GS) : Prop := GVar Tryd.prog "internal/strconv.uint64pow10" (Lib.pow10Tab.map fun z => Value.int .u64 z).toArray G
theorem itoa_spec (n : Int) {G : GS} {w : World} {F : List Chunk} (h_n : I64 n) (ht : GTab G) (h : Holds G w F) : Calls Tryd.prog 26 #[.int .i64 n] w (Ret G F fun _ v => v = S (Lib.itoa n)) :=
  (Tryd.strconv_Itoa n h_n.1 h_n.2 w (ht.var h)).mono fun _ _ ⟨he, k, os, hw⟩ => ⟨_, G, he, GS.Le.refl G, h.ext (hw ▸ below_growN w k os), rfl⟩
theorem join_spec (ao : Option Addr) (cap : Nat) (ws : List (List UInt8)) (sep : List UInt8) {G : GS} {w : World} {F : List Chunk} (h_ws : RdF encS 1 G.M ao cap ws) (hl : (Lib.join ws sep).length ≤ 140737488355328) (hn : ws.length ≤ 140737488355328) (h : Holds G w F) :
    Calls Tryd.prog 61 #[.slice ao ws.length cap, S sep] w (Ret G F fun _ v => v = S (Lib.join ws sep)) := by
  rcases Nat.eq_zero_or_pos ws.length with h0 | h0
  · have : ws = [] := List.eq_nil_of_length_eq_zero h0
    subst this
    refine (Tryd.strings_Join_none ao cap ⟨sep.toArray⟩ w).mono fun _ _ ⟨he, hw⟩ => ⟨_, G, he, GS.Le.refl G, hw ▸ h, rfl⟩
  · have ha := h_ws.addr h0
    have e1 : (ws.map fun x => (⟨x.toArray⟩ : ByteArray)).map (fun b => b.data.toList) = ws := by simp [Function.comp_def]
    have hb : blk ao < w.heap.size := by
      have hc := h_ws.row 0 ws[0] (by simp) 0 (S ws[0]) rfl
      simp only [Nat.zero_mul, Nat.add_zero] at hc
      have := h.cellM hc
      unfold World.cell? at this
      rcases hh : w.heap[blk ao]? with _ | o
      · simp [hh] at this
      · exact lt_of_heap hh
    have hj := Tryd.strings_Join (blk ao) (ofs ao) cap (ws.map fun x => (⟨x.toArray⟩ : ByteArray)) ⟨sep.toArray⟩ w (fun j x hx => by
      rw [List.getElem?_map, Option.map_eq_some_iff] at hx
      obtain ⟨y, hy, rfl⟩ := hx
      have hc := h_ws.row j y hy 0 (S y) rfl
      simp only [Nat.mul_one, Nat.add_zero] at hc
      exact h.cellM hc) hb (by simpa using hn) (by simpa using h_ws.le) (by rw [e1]; exact hl)
    rw [e1, List.length_map, ← ha] at hj
    exact hj.mono fun _ _ ⟨he, hw⟩ => ⟨_, G, he, GS.Le.refl G, h.ext hw, rfl⟩
theorem point_spec (m : Int) (n : Int) {G : GS} {w : World} {F : List Chunk} (h_m : -9223372036854775808 ≤ m ∧ m ≤ 9223372036854775807) (h_n : -9223372036854775808 ≤ n ∧ n ≤ 9223372036854775807) (ht : GTab G) (h : Holds G w F) :
    Calls Tryd.prog 64 #[.int .i64 m, .int .i64 n] w (Ret G F fun G v => v = S (point m n)) := by
  refine enter (N := 11) (L := [(0, .int .i64 m), (1, .int .i64 n)]) rfl Tryd.func64 rfl rfl rfl (fun a0 s0 => ?_)
  refine wp_seq ?_
  refine wp_region_lit ?_
  refine q_of s0 rfl (fun _ k => o_assign (s0.ev rfl) k) (fun a1 s2 => ?_)
  refine wpList_nil ?_
  refine x_then_n ?_
  refine wp_seq ?_
  refine wp_region_lit ?_
  refine q_of s2 rfl (fun _ k => o_move (s2.ev rfl) k) (fun a3 s4 => ?_)
  refine q_call s4 rfl ok26 rfl (itoa_spec m (by omega) ht h) (fun a5 w7 v12 G9 hs13 h8 hv11 s6 => ?_)
  subst hv11
  have ht := ht.mono hs13
  have hG10 := (GS.Le.refl _).trans hs13
  have hL_1192 := Lib.itoa_length_le m (by omega) (by omega)
  refine q_of s6 rfl (fun _ k => o_sadd (s6.ev rfl) (s6.ev rfl) (by first | omega | (simp only [List.length_append, List.length_cons, List.length_nil] ; omega)) k) (fun a14 s15 => ?_)
  refine q_of s15 rfl (fun _ k => o_move (s15.ev rfl) k) (fun a16 s17 => ?_)
  refine q_call s17 rfl ok26 rfl (itoa_spec n (by omega) ht h8) (fun a18 w20 v25 G22 hs26 h21 hv24 s19 => ?_)
  subst hv24
  have ht := ht.mono hs26
  have hG23 := hG10.trans hs26
  have hL_832146 := Lib.itoa_length_le n (by omega) (by omega)
  refine q_of s19 rfl (fun _ k => o_sadd (s19.ev rfl) (s19.ev rfl) (by first | omega | (simp only [List.length_append, List.length_cons, List.length_nil] ; omega)) k) (fun a27 s28 => ?_)
  refine q_of s28 rfl (fun _ k => o_assign (s28.ev rfl) k) (fun a29 s30 => ?_)
  refine wpList_nil ?_
  refine x_then_n ?_
  refine wp_ret ?_
  refine fin1 s30 rfl rfl ⟨_, _, rfl, hG23, h21, ?_⟩
  rfl
end Go.Proofs.YtediojjcoohhoaaDoor
