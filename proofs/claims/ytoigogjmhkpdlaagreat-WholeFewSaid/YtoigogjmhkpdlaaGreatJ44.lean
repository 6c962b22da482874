/- A part of the proof of WholeFew: the texts TopC, TopD. -/
import Derived.Test.YtoigogjmhkpdlaaGreatJ23
import Derived.Test.YtoigogjmhkpdlaaGreatJ42
import Derived.Test.YtoigogjmhkpdlaaGreatJ43
import Derived.Deep.CutBlock
import Derived.Deep.DeepCutAuto
set_option maxHeartbeats 12800000
set_option maxRecDepth 100000
namespace Go.Proofs.YtoigogjmhkpdlaaGreat
open Go.RowKit
def no : Nat → Prop := fun _ => False
theorem krun (s : Shp) (hs : s.Ok) (m : Nat) (hm2 : m ≤ 65536) (x : Cm) (W : World) :
    Calls Tryz.prog 10 #[shv s, .int .i64 (m : Int), .slice none 0 0] W fun e W' => ∃ C S', e = .returned (.pointer (some ⟨C, 0, none⟩)) ∧ KAt W' S' C s m x (Mdl.newK s.n) ∧ Step no W W' S' := by
  have HN := Lib.hid (fun w => cnew_any s hs m hm2 x w)
  obtain ⟨K, F⟩ := s
  unfold shv at HN ⊢
  simp only [] at HN ⊢
  go_enter Tryz.func10, Tryz.ntmps10
  go_wp2_with fail
  generalize hw1 : World.alloc W _ = w1
  have hb1 := named_below hw1.symm
  have HC := Lib.hid (HN.out w1)
  have HB1 := Lib.hid hb1
  clear hw1 hb1
  refine HC.out.mono ?_
  rintro e w2 ⟨C, S', rfl, hK, hS⟩
  have HK := Lib.hid hK
  have HS := Lib.hid hS
  clear hK hS
  go_wp2
  refine wp_loop_rounds 1 ?_
  rw [rounds_succ]
  go_wp2
  go_ret
  refine ⟨C, S', rfl, HK.out, (Turned.of_below HB1.out).trans HS.out.t, fun k hk => ?_, HS.out.lt⟩
  rcases HS.out.sub k hk with h | h
  · exact h.elim
  · exact .inr (Nat.le_trans HB1.out.size h)
theorem n5_any (s : Shp) (hs : s.Ok) (W : World) : Calls Tryz.prog 7 #[shv s] W fun e W' => e = .returned (.int .i64 (s.n : Nat)) ∧ Below W.heap.size W W' := by
  have h7 := hs.n7
  obtain ⟨K, F⟩ := s
  have hn : (Shp.n ⟨K, F⟩ : Int) = (K : Int) + (F : Int) + (F : Int) := by unfold Shp.n; push_cast; omega
  have HN := Lib.hid hn
  simp only [] at h7
  unfold shv
  simp only []
  go_enter Tryz.func7, Tryz.ntmps7
  go_wp2
  go_ret
  refine ⟨?_, (Below.refl _ _).alloc (Nat.le_refl _) _⟩
  rw [HN.out]
  go_num
theorem td_one {x : Cm} {told : List Td} {k : Mdl.Km} (h : TdR x told k.told) (hs : Mdl.slots k = [0]) : ∃ t, told = [t] ∧ t.a.slot = 0 ∧ t.a.seq = x.seq ∧ t.a.r.e = 0 := by
  have hl : k.told.length = 1 := by
    have := congrArg List.length hs
    simpa [Mdl.slots] using this
  match hk : k.told, hl with
  | [(c, j)], _ =>
    have hj : j = 0 := by
      unfold Mdl.slots at hs
      rw [hk] at hs
      simpa using hs
    subst hj
    unfold TdR at h
    rw [hk] at h
    have hlt : told.length = 1 := by
      have := congrArg List.length h
      simpa using this
    match told, hlt, h with
    | [t], _, h =>
      simp only [List.map_cons, List.map_nil, List.cons.injEq, Prod.mk.injEq, and_true] at h
      exact ⟨t, rfl, h.2.1, h.2.2.1, h.2.2.2⟩
def xA : Cm := ⟨1, 1, 1, { data := #[114] }, { data := #[99] }, ByteArray.empty, 0, { data := #[118] }, ByteArray.empty, false⟩
theorem xA_right : ∀ j, rightC (cmdAt xA j) = true
  | 0 => by decide +kernel
  | _ + 1 => show rightC (cmdAt xA 1) = true by decide +kernel
theorem esLen_cmd {k : Mdl.Km} {who j : Nat} (h : Mdl.esLen k who = some j) : ∀ nd lm, k.nodes[who]? = some nd → nd.ld = some lm → lm.es.length = j := fun nd lm h1 h2 => by
  unfold Mdl.esLen at h
  rw [h1] at h
  simp only [h2, Option.map_some, Option.some.injEq] at h
  exact h
theorem awake_any (W : World) : Calls Tryz.prog 8 #[] W fun e W' => e = .returned (.bool true) ∧ Turned no W W' := by
  obtain ⟨k, k2, k3, g1, g2, g3, g4, g5, g6⟩ := Mdl.awake2_parts
  have hs : Shp.Ok ⟨2, 1⟩ := ⟨by decide, by decide⟩
  have HR := Lib.hid (fun w => krun ⟨2, 1⟩ hs 5000 (by omega) xA w)
  have HN := Lib.hid (fun w => n5_any ⟨2, 1⟩ hs w)
  have HL := Lib.hid (fun C W S hS h => klead ⟨2, 1⟩ hs 5000 (by omega) xA xA_right C 2 (by decide) _ k g1 W S hS h)
  have HA := Lib.hid (fun C W S hS h => ktopask ⟨2, 1⟩ hs 5000 (by omega) xA xA_right C 2 (by decide) k k2 k3 g2 g3 xA (fun nd lm h1 h2 => by rw [esLen_cmd g4 nd lm h1 h2]; rfl) W S hS h)
  have HT := Lib.hid (fun told (h : TdR xA told k3.told) => td_one h g6)
  have HK0 := Lib.hid (show k.told.length = 0 by have := congrArg List.length g5; simpa [Mdl.slots] using this)
  unfold shv at HR HN
  unfold cmv cmcells xA at HA
  simp only [show Shp.n ⟨2, 1⟩ = 4 from rfl] at HR HN HL HA
  clear g1 g2 g3 g4 g5 g6 hs
  go_enter Tryz.func8, Tryz.ntmps8
  go_wp2_with fail
  generalize hw1 : World.alloc W _ = w1
  have hB := named_new hw1.symm
  have hb1 := named_below hw1.symm
  have hz1 : W.heap.size < w1.heap.size := by rw [named_size hw1.symm]; omega
  clear hw1
  have HC1 := Lib.hid (HR.out w1)
  have HB := Lib.hid hB
  have HB1 := Lib.hid hb1
  clear hB hb1
  refine HC1.out.mono ?_
  rintro e w2 ⟨C, S2, rfl, hK2, hS2⟩
  have hB2 := (hS2.t.block W.heap.size hz1 (fun e => e)).trans HB.out
  have x0 : w2.cell? ⟨W.heap.size, 0, none⟩ = some (.int .i64 2) := cob hB2 0 rfl
  have x1 : w2.cell? ⟨W.heap.size, 1, none⟩ = some (.int .i64 1) := cob hB2 1 rfl
  have HC2 := Lib.hid (HN.out w2)
  have HK2 := Lib.hid hK2
  have HS2 := Lib.hid hS2
  clear hK2 hS2 hB2
  go_wp2_with fail
  refine HC2.out.mono ?_
  rintro e w3 ⟨rfl, hb3⟩
  have HC3 := Lib.hid (HL.out C w3 S2 (HS2.out.lt.wide hb3.size) (HK2.out.frame hb3.size fun j hj => hb3.block j (HS2.out.lt j hj)))
  have HB3 := Lib.hid hb3
  clear hb3 x0 x1
  go_wp2_with fail
  refine HC3.out.mono ?_
  rintro e w4 ⟨rfl, S4, hK4, hS4⟩
  have HC4 := Lib.hid (HA.out C w4 S4 hS4.lt hK4)
  have HS4 := Lib.hid hS4
  clear hK4 hS4
  go_wp2_with fail
  refine HC4.out.mono ?_
  rintro e w5 ⟨told, L, A, cc, S5, rfl, hO5, hL5, hR5, hK5, hS5⟩
  obtain ⟨t, ht, h1, h2, h3⟩ := HT.out told hR5
  have hL : L = [t.a] := by rw [hL5.out, HK0.out, ht]; rfl
  subst hL
  obtain ⟨g, rfl, _⟩ := hO5.form (by simp)
  have q2 := hO5.cell acells_len 0 2 (by simp) (.int .i64 0) (by rw [← h1]; rfl)
  have q3 := hO5.cell acells_len 0 3 (by simp) (.int .i64 0) (by rw [← h3]; rfl)
  simp only [Nat.zero_mul, Nat.zero_add] at q2 q3
  have HS5 := Lib.hid hS5
  clear hO5 hL5 hR5 hK5 hS5 ht h1 h2 h3
  simp only [List.length_cons, List.length_nil, Nat.zero_add]
  go_wp2
  go_ret
  refine ⟨rfl, ?_⟩
  have t2 : Turned no W w3 := ((Turned.of_below HB1.out).trans HS2.out.t).trans (Turned.of_below HB3.out)
  refine (t2.next HS4.out.t fun k hk => ?_).next HS5.out.t fun k hk => ?_
  · rcases HS2.out.sub k hk with h | h
    · exact h.elim
    · exact .inr (Nat.le_trans HB1.out.size h)
  · rcases HS4.out.sub k hk with h | h
    · rcases HS2.out.sub k h with h | h
      · exact h.elim
      · exact .inr (Nat.le_trans HB1.out.size h)
    · exact .inr (Nat.le_trans t2.size h)
theorem crashF_in {n F d f i gone : Nat} {k k' : Mdl.Km} (h : Mdl.crashF n F d (f + 1) i gone k = some k') (hi : i < n) (hg : gone < F) :
    (((d >>> i % 2 = 1 ∨ n - i ≤ F - gone) ∧ ∃ k1, Mdl.crashK i k = some k1 ∧ Mdl.crashF n F d f (i + 1) (gone + 1) k1 = some k') ∨ (¬ (d >>> i % 2 = 1 ∨ n - i ≤ F - gone) ∧ Mdl.crashF n F d f (i + 1) gone k = some k')) := by
  rw [Mdl.crashF, if_pos (by rw [Bool.and_eq_true, Nat.blt_eq, Nat.blt_eq]; exact ⟨hi, hg⟩)] at h
  by_cases hc : d >>> i % 2 = 1 ∨ n - i ≤ F - gone
  · rw [if_pos (by rw [Bool.or_eq_true, Nat.beq_eq, Nat.ble_eq]; exact hc)] at h
    refine .inl ⟨hc, ?_⟩
    cases hk : Mdl.crashK i k with
    | none => rw [hk] at h; cases h
    | some k1 => rw [hk] at h; exact ⟨k1, rfl, h⟩
  · rw [if_neg (by rw [Bool.or_eq_true, Nat.beq_eq, Nat.ble_eq]; exact hc)] at h
    exact .inr ⟨hc, h⟩
theorem crashF_out {n F d f i gone : Nat} {k k' : Mdl.Km} (h : Mdl.crashF n F d f i gone k = some k') (hi : ¬ (i < n ∧ gone < F)) : k' = k := by
  cases f with
  | zero => rw [Mdl.crashF] at h; injection h with h; exact h.symm
  | succ f =>
    rw [Mdl.crashF, if_neg (by rw [Bool.and_eq_true, Nat.blt_eq, Nat.blt_eq]; exact hi)] at h
    injection h with h; exact h.symm
theorem crashOne_in {n f i : Nat} {k k' : Mdl.Km} (h : Mdl.crashOne n (f + 1) i k = some k') (hi : i < n) : ∃ nd, k.nodes[i]? = some nd ∧ ((nd.up = true ∧ Mdl.crashK i k = some k') ∨ (nd.up = false ∧ Mdl.crashOne n f (i + 1) k = some k')) := by
  rw [Mdl.crashOne, if_pos (by rw [Nat.blt_eq]; exact hi)] at h
  cases hn : k.nodes[i]? with
  | none => rw [hn] at h; cases h
  | some nd =>
    rw [hn] at h
    simp only [] at h
    refine ⟨nd, rfl, ?_⟩
    split at h
    · rename_i hu; exact .inl ⟨hu, h⟩
    · rename_i hu; exact .inr ⟨by simpa using hu, h⟩
theorem crashOne_out {n f i : Nat} {k k' : Mdl.Km} (h : Mdl.crashOne n f i k = some k') (hi : ¬ i < n) : k' = k := by
  cases f with
  | zero => rw [Mdl.crashOne] at h; injection h with h; exact h.symm
  | succ f =>
    rw [Mdl.crashOne, if_neg (by rw [Nat.blt_eq]; exact hi)] at h
    injection h with h; exact h.symm
theorem Turned.to_below {W W' : World} (h : Turned no W W') : Below W.heap.size W W' := ⟨h.os, h.tape, h.output, h.size, fun k hk => h.block k hk (fun e => e)⟩
theorem shape_any (a b : Nat) (ha : a < 256) (hb : b < 256) (W : World) : Calls Tryz.prog 6 #[.int .u8 (a : Int), .int .u8 (b : Int)] W fun e W' => e = .returned (shv ⟨1 + a % (7 - 2 * (b % 4)), b % 4⟩) ∧ Below W.heap.size W W' := by
  unfold shv
  simp only []
  go_enter Tryz.func6, Tryz.ntmps6
  go_wp2
  have h7 : b % 4 < 4 := Nat.mod_lt _ (by omega)
  have hm : a % (7 - 2 * (b % 4)) < 7 - 2 * (b % 4) := Nat.mod_lt _ (by omega)
  have e1 : ((b : Nat) : Int) % 4 = ((b % 4 : Nat) : Int) := by omega
  have e2 : (7 - 2 * (((b % 4 : Nat)) : Int)) = ((7 - 2 * (b % 4) : Nat) : Int) := by omega
  have e3 : ((a : Nat) : Int) % ((7 - 2 * (b % 4) : Nat) : Int) = ((a % (7 - 2 * (b % 4)) : Nat) : Int) := by simp
  have e4 : wrap64 (1 + ((a % (7 - 2 * (b % 4)) : Nat) : Int)) = ((1 + a % (7 - 2 * (b % 4)) : Nat) : Int) := by
    unfold wrap64; omega
  rw [e1, e2, e3, e4]
  refine bodyPost_ret (results_c rfl _ _ W.heap.size _ _ (0, 0) _ rfl (heap_alloc_new W _) Tryz.underlying25 rfl Tryz.sizeSh) rfl ?_
  exact ⟨rfl, (Below.refl _ _).alloc (Nat.le_refl _) _⟩
theorem told_len {k : Mdl.Km} {l : List Nat} (h : Mdl.slots k = l) : k.told.length = l.length := by
  have := congrArg List.length h
  simpa [Mdl.slots] using this
theorem td_len {x : Cm} {told : List Td} {kt : List (Nat × Nat)} (h : TdR x told kt) : told.length = kt.length := by
  have := congrArg List.length h
  simpa using this
theorem appUp_parts {k : Mdl.Km} {u : Bool} {n : Nat} (h : Mdl.appUp k 0 = some (u, n)) : ∃ nd, k.nodes[0]? = some nd ∧ nd.up = u ∧ nd.app = n := by
  unfold Mdl.appUp at h
  cases hn : k.nodes[0]? with
  | none => rw [hn] at h; cases h
  | some nd =>
    rw [hn] at h
    simp only [Option.map_some, Option.some.injEq, Prod.mk.injEq] at h
    exact ⟨nd, rfl, h.1, h.2⟩
theorem td_two {x : Cm} {told : List Td} {k : Mdl.Km} (h : TdR x told k.told) (hs : Mdl.slots k = [0, 1]) : ∃ a b, told = [a, b] ∧ b.a.slot = 1 ∧ b.a.seq = x.seq + 1 := by
  have hl := told_len hs
  match hk : k.told, hl with
  | [(c, j), (c2, j2)], _ =>
    have hj : j2 = 1 := by
      unfold Mdl.slots at hs
      rw [hk] at hs
      simpa using (List.cons.inj (List.cons.inj hs).2).1
    subst hj
    unfold TdR at h
    rw [hk] at h
    have hlt : told.length = 2 := by
      have := congrArg List.length h
      simpa using this
    match told, hlt, h with
    | [a, b], _, h =>
      simp only [List.map_cons, List.map_nil, List.cons.injEq, Prod.mk.injEq, and_true] at h
      exact ⟨a, b, rfl, h.2.2.1, h.2.2.2.1⟩
theorem u8_and1 : ∀ v : Fin 256, bits BinOp.and IntKind.u8 ((v.val : Nat) : Int) 1 = ((v.val % 2 : Nat) : Int) := by decide +kernel
theorem u8_bit (d i : Nat) (hd : d < 256) : bits BinOp.and IntKind.u8 ((d : Int) / 2 ^ i) 1 = ((d >>> i % 2 : Nat) : Int) := by
  have h1 : (d : Int) / 2 ^ i = ((d / 2 ^ i : Nat) : Int) := by simp
  have h2 : d / 2 ^ i < 256 := Nat.lt_of_le_of_lt (Nat.div_le_self _ _) hd
  rw [h1, u8_and1 ⟨d / 2 ^ i, h2⟩, Nat.shiftRight_eq_div_pow]
theorem right_next {x : Cm} (h : rightC x = true) (hq : x.seq ≤ 1000000) : ∀ j, rightC (cmdAt x j) = true
  | 0 => h
  | _ + 1 => by
    obtain ⟨cl, sq, kind, row, col, tt, at_, value, expect, has⟩ := x
    show rightC ⟨cl, sq + 1, kind, row, col, tt, at_, value, expect, has⟩ = true
    simp only at hq
    unfold rightC at h ⊢
    rw [Bool.and_eq_true, decide_eq_true_eq] at h ⊢
    obtain ⟨h1, h2⟩ := h
    refine ⟨?_, ?_⟩
    · simp only [soundB, Bool.and_eq_true, Bool.not_eq_true', decide_eq_false_iff_not] at h1 ⊢
      obtain ⟨⟨⟨⟨⟨⟨⟨a1, a2⟩, a3⟩, a4⟩, a5⟩, a6⟩, a7⟩, a8⟩ := h1
      exact ⟨⟨⟨⟨⟨⟨⟨a1, a2⟩, by omega⟩, by omega⟩, a5⟩, a6⟩, a7⟩, a8⟩
    · refine Nat.le_trans (Nat.le_of_eq ?_) h2
      simp [cmdN, numsOf, strsOf, numN_length]
theorem wholeFew_any (a b d : Nat) (ha : a < 256) (hb : b < 256) (hd : d < 256) (full : Bool) (c : Cm) (W : World) :
    Calls Tryz.prog 3 #[.int .u8 (a : Int), .int .u8 (b : Int), .int .u8 (d : Int), .bool full, cmv c] W fun e W' => e = .returned (.bool true) ∧ Below W.heap.size W W' := by
  obtain ⟨s, hse⟩ : ∃ s : Shp, s = ⟨1 + a % (7 - 2 * (b % 4)), b % 4⟩ := ⟨_, rfl⟩
  have hs : s.Ok := by
    have h1 : b % 4 < 4 := Nat.mod_lt _ (by omega)
    have h2 : a % (7 - 2 * (b % 4)) < 7 - 2 * (b % 4) := Nat.mod_lt _ (by omega)
    rw [hse]
    exact ⟨by show 1 ≤ 1 + a % (7 - 2 * (b % 4)); omega, by show 1 + a % (7 - 2 * (b % 4)) + 2 * (b % 4) ≤ 7; omega⟩
  have HSh := Lib.hid (fun w => shape_any a b ha hb w)
  rw [← hse] at HSh
  have HN := Lib.hid (fun w => n5_any s hs w)
  have HAw := Lib.hid awake_any
  obtain ⟨cl0, sq, kind, row, col, tt, at_, value, expect, has⟩ := c
  obtain ⟨x, hx⟩ : ∃ x : Cm, x = ⟨16, sq, kind, row, col, tt, at_, value, expect, has⟩ := ⟨_, rfl⟩
  have HRt := Lib.hid (fun w => cmdright_any x w)
  have HX := Lib.hid hx
  rw [hx] at HRt
  have HSE := Lib.hid hse
  clear hse
  obtain ⟨K, F⟩ := s
  unfold shv at HSh HN
  unfold cmv cmcells at HRt ⊢
  simp only [] at HSh HN HRt ⊢
  rw [← hx] at HRt
  clear hx
  have hN1 : Shp.n ⟨K, F⟩ ≤ 7 := hs.n7
  go_enter Tryz.func3, Tryz.ntmps3
  go_wp2_with fail
  generalize hw1 : World.alloc W _ = w1
  have hB := named_new hw1.symm
  have hb1 := named_below hw1.symm
  have hz1 : W.heap.size < w1.heap.size := by rw [named_size hw1.symm]; omega
  clear hw1
  refine (HSh.out w1).mono ?_
  rintro e w2 ⟨rfl, hb2⟩
  have hz2 := hb2.size
  have hB2 := (hb2.block W.heap.size hz1).trans hB
  have HB2 := Lib.hid (hb1.trans (hb2.mono (Nat.le_of_lt hz1)))
  have HBl2 := Lib.hid hB2
  clear hB hb1 hb2 hB2
  go_wp2_with fail
  generalize hw3 : World.alloc w2 _ = w3
  have hA3 := named_new hw3.symm
  have hb3 := named_below hw3.symm
  have hz3 : w2.heap.size < w3.heap.size := by rw [named_size hw3.symm]; omega
  clear hw3
  refine (HN.out w3).mono ?_
  rintro e w4 ⟨rfl, hb4⟩
  have hz4 := hb4.size
  have hA4 := (hb4.block w2.heap.size hz3).trans hA3
  have hB4 := (hb4.block W.heap.size (by omega)).trans ((hb3.block W.heap.size (by omega)).trans HBl2.out)
  have HB4 := Lib.hid ((HB2.out.trans (hb3.mono (by omega))).trans (hb4.mono (by omega)))
  have c0 : w4.cell? ⟨W.heap.size, 0, none⟩ = some (.int .i64 cl0) := cob hB4 0 rfl
  have f0 : w4.frozen? ⟨W.heap.size, 0, none⟩ = false := by simp [World.frozen?, hB4]
  have hB5 := heap_setCell_same w4 W.heap.size 0 _ _ (.int .i64 16) hB4
  have HB5 := Lib.hid hB5
  have HA5 := Lib.hid (show (w4.setCell ⟨W.heap.size, 0, none⟩ (.int .i64 16)).heap[w2.heap.size]? = _ from (heap_setCell_other w4 ⟨W.heap.size, 0, none⟩ _ _ (show w2.heap.size ≠ W.heap.size by omega)).trans hA4)
  have HT5 := Lib.hid (show Turned no W (w4.setCell ⟨W.heap.size, 0, none⟩ (.int .i64 16)) from (Turned.of_below HB4.out).setCell (p := ⟨W.heap.size, 0, none⟩) (.inr (Nat.le_refl _)) _)
  have hzz : W.heap.size < w4.heap.size ∧ w2.heap.size < w4.heap.size ∧ W.heap.size ≠ w2.heap.size := by omega
  clear hb3 hb4 hA3 hA4 hB4 hB5 hz1 hz2 hz3 hz4
  go_wp2_with fail
  obtain ⟨w5, hw5⟩ : ∃ w5, w5 = w4.setCell ⟨W.heap.size, 0, none⟩ (.int .i64 16) := ⟨_, rfl⟩
  have hz5 : w5.heap.size = w4.heap.size := by rw [hw5]; simp
  rw [← hw5] at HB5 HA5 HT5 ⊢
  have hW5 : W.heap.size < w5.heap.size := by omega
  have h25 : w2.heap.size < w5.heap.size := by omega
  clear hw5 c0 f0 hz5
  refine (HAw.out w5).mono ?_
  rintro e w6 ⟨rfl, ht6⟩
  have hz6 := ht6.size
  have hB6 := (ht6.block W.heap.size hW5 (fun e => e)).trans HB5.out
  have hA6 := (ht6.block w2.heap.size h25 (fun e => e)).trans HA5.out
  have HT6 := Lib.hid (HT5.out.trans ht6)
  have x0 : w6.cell? ⟨W.heap.size, 0, none⟩ = some (.int .i64 16) := cob hB6 0 rfl
  have x1 : w6.cell? ⟨W.heap.size, 1, none⟩ = some (.int .i64 sq) := cob hB6 1 rfl
  have x2 : w6.cell? ⟨W.heap.size, 2, none⟩ = some (.int .i64 kind) := cob hB6 2 rfl
  have x3 : w6.cell? ⟨W.heap.size, 3, none⟩ = some (.string row) := cob hB6 3 rfl
  have x4 : w6.cell? ⟨W.heap.size, 4, none⟩ = some (.string col) := cob hB6 4 rfl
  have x5 : w6.cell? ⟨W.heap.size, 5, none⟩ = some (.string tt) := cob hB6 5 rfl
  have x6 : w6.cell? ⟨W.heap.size, 6, none⟩ = some (.int .i64 at_) := cob hB6 6 rfl
  have x7 : w6.cell? ⟨W.heap.size, 7, none⟩ = some (.string value) := cob hB6 7 rfl
  have x8 : w6.cell? ⟨W.heap.size, 8, none⟩ = some (.string expect) := cob hB6 8 rfl
  have x9 : w6.cell? ⟨W.heap.size, 9, none⟩ = some (.bool has) := cob hB6 9 rfl
  have HB6 := Lib.hid hB6
  have HA6 := Lib.hid hA6
  clear ht6 hB6 hA6
  go_wp2_with fail
  refine (HRt.out w6).mono ?_
  rintro e w7 ⟨rfl, hb7⟩
  have hz7 := hb7.size
  have hB7 := (hb7.block W.heap.size (by omega)).trans HB6.out
  have hA7 := (hb7.block w2.heap.size (by omega)).trans HA6.out
  have HT7 := Lib.hid (HT6.out.trans (Turned.of_below hb7))
  have y1 : w7.cell? ⟨W.heap.size, 1, none⟩ = some (.int .i64 sq) := cob hB7 1 rfl
  have HB7 := Lib.hid hB7
  have HA7 := Lib.hid hA7
  clear hb7 hB7 hA7 x0 x1 x2 x3 x4 x5 x6 x7 x8 x9
  by_cases hr : rightC x = false
  · rw [hr]
    go_wp2_with fail
    refine (HAw.out w7).mono ?_
    rintro e w8 ⟨rfl, ht8⟩
    have HT8 := Lib.hid (HT7.out.trans ht8)
    clear ht8
    go_wp2
    go_ret
    exact ⟨rfl, HT8.out.to_below⟩
  have hr : rightC x = true := by simpa using hr
  by_cases hq : 1000000 < sq
  · rw [hr]
    have dq : decide ((1000000 : Int) < sq) = true := by simpa using hq
    go_wp2_with fail
    refine (HAw.out w7).mono ?_
    rintro e w8 ⟨rfl, ht8⟩
    have HT8 := Lib.hid (HT7.out.trans ht8)
    clear ht8
    go_wp2
    go_ret
    exact ⟨rfl, HT8.out.to_below⟩
  have dq : decide ((1000000 : Int) < sq) = false := by simpa using hq
  have hs1 : 0 < sq := by
    have := seq_of hr
    rw [HX.out] at this
    exact this
  have hxx : ∀ j, rightC (cmdAt x j) = true := right_next hr (by rw [HX.out]; show sq ≤ 1000000; omega)
  have hnn : K + F + F = Shp.n ⟨K, F⟩ := by unfold Shp.n; simp only []; omega
  obtain ⟨r, hrun⟩ := Mdl.run_of (K := K) (F := F) (d := d) hs.k1 hs.n7 hd
  have hr0 := hrun.h0
  have hr1 := hrun.h1
  have hr2 := hrun.h2
  have hr3 := hrun.h3
  have hr4 := hrun.h4
  have hr5 := hrun.h5
  have hr6 := hrun.h6
  have hr7 := hrun.h7
  have hr8 := hrun.h8
  rw [hnn] at hr0 hr1 hr2 hr3 hr4 hr5 hr6 hr7 hr8
  have hn0 : 0 < Shp.n ⟨K, F⟩ := by have := hs.k1; unfold Shp.n; simp only [] at this ⊢; omega
  have HRun := Lib.hid (fun w => krun ⟨K, F⟩ hs 65536 (by omega) x w)
  have HL := Lib.hid (fun C W S hS h => klead ⟨K, F⟩ hs 65536 (by omega) x hxx C 0 hn0 _ r.k hr0 W S hS h)
  have HCr := Lib.hid (fun C (i : Nat) k k' hk W S h => kcrash ⟨K, F⟩ 65536 x C i ⟨7, (i : Int), 0, false, cm0⟩ rfl rfl k k' hk W S h)
  have HA1 := Lib.hid (fun C W S hS h => ktopask ⟨K, F⟩ hs 65536 (by omega) x hxx C 0 hn0 r.k1 r.k2 r.k3 hr2 hr3 x (fun nd lm h1 h2 => by rw [esLen_cmd hrun.e1 nd lm h1 h2]; rfl) W S hS h)
  have HUp := Lib.hid (fun C (i : Nat) k nd hn W S h => kup ⟨K, F⟩ 65536 x C i k nd hn W S h)
  have HA2 := Lib.hid (fun C W S hS h => ktopask ⟨K, F⟩ hs 65536 (by omega) x hxx C 0 hn0 r.k4 r.k5 r.k6 hr5 hr6 (cmdAt x 1) (fun nd lm h1 h2 => by rw [esLen_cmd hrun.e4 nd lm h1 h2]) W S hS h)
  have HTk := Lib.hid (fun C k k' hk W S h => ktick ⟨K, F⟩ hs 65536 x C 0 hn0 ⟨6, 0, 0, full, cm0⟩ rfl rfl k k' hk W S h)
  have HAl := Lib.hid (fun C k k' hk W S hS h => kall ⟨K, F⟩ hs 65536 (by omega) x hxx C 200 (by omega) k k' hk W S hS h)
  have HAp := Lib.hid (fun C k nd hn hu W S h => kapplied ⟨K, F⟩ 65536 x C 0 k nd hn hu W S h)
  have HTd := Lib.hid (fun C k W S h => ktold ⟨K, F⟩ 65536 x C k W S h)
  have HRi := Lib.hid (fun C (i : Nat) k k' hk W S h => krise ⟨K, F⟩ 65536 x C i ⟨8, (i : Int), 0, false, cm0⟩ rfl rfl k k' hk W S h)
  have HR := Lib.hid hrun
  have H1 := Lib.hid hr1
  have H4 := Lib.hid hr4
  have H7 := Lib.hid hr7
  have H8 := Lib.hid hr8
  have HNN := Lib.hid hnn
  unfold shv at HRun
  have HXE := Lib.hid (show cmdAt x 1 = ⟨16, sq + 1, kind, row, col, tt, at_, value, expect, has⟩ by rw [HX.out]; rfl)
  rw [HX.out] at HA1
  rw [HXE.out] at HA2
  unfold cmv cmcells at HA1 HA2
  unfold spv spcells cmcells cm0 at HCr HTk HRi
  simp only [List.cons_append, List.nil_append] at HCr HTk HRi HRun HA1 HA2
  rw [← HX.out] at HA1
  have s0 : w7.cell? ⟨w2.heap.size, 0, none⟩ = some (.int .i64 (K : Int)) := cob HA7.out 0 rfl
  have s1 : w7.cell? ⟨w2.heap.size, 1, none⟩ = some (.int .i64 (F : Int)) := cob HA7.out 1 rfl
  have hl1 : W.heap.size < w7.heap.size := by omega
  have hl2 : w2.heap.size < w7.heap.size := by omega
  clear hr0 hr1 hr2 hr3 hr4 hr5 hr6 hr7 hr8 hrun hxx hnn
  rw [hr]
  go_wp2_with fail
  refine (HRun.out w7).mono ?_
  rintro e w8 ⟨C, S8, rfl, hK8, hS8⟩
  have HC8 := Lib.hid (HL.out C w8 S8 hS8.lt hK8)
  have HS8 := Lib.hid hS8
  clear hK8 hS8 s0 s1 y1
  go_wp2_with fail
  refine HC8.out.mono ?_
  rintro e w9 ⟨rfl, S9, hK9, hS9⟩
  have HK9 := Lib.hid hK9
  have HS9 := Lib.hid (HS8.out.trans hS9)
  clear hK9 hS9
  have hnI : (Shp.n ⟨K, F⟩ : Int) ≤ 7 := by omega
  go_upto_block 0 with fail
  have HSb := Lib.hid (fun (wr : World) (S' : Nat → Prop) (h : Step no w7 wr S') => (h.t.block w2.heap.size hl2 (fun e => e)).trans HA7.out)
  have HXb := Lib.hid (fun (wr : World) (S' : Nat → Prop) (h : Step no w7 wr S') => (h.t.block W.heap.size hl1 (fun e => e)).trans HB7.out)
  go_cut [14, 15] (fun _ _ wx => ∃ S', Hid (KAt wx S' C ⟨K, F⟩ 65536 x r.k1) ∧ Hid (Step no w7 wx S'))
  case first =>
    go_wp2_with fail
    go_loopw [14, 15] (fun g i wr => ∃ (r0 gone f : Nat) (kk : Mdl.Km) (S' : Nat → Prop), f + r0 = 9 ∧ 1 ≤ r0 ∧ r0 ≤ Shp.n ⟨K, F⟩ ∧ g = .int .i64 gone ∧ i = .int .i64 r0 ∧ gone ≤ r0 ∧ Hid (Mdl.crashF (Shp.n ⟨K, F⟩) F d f r0 gone kk = some r.k1) ∧ Hid (KAt wr S' C ⟨K, F⟩ 65536 x kk) ∧ Hid (Step no w7 wr S')) (fun _ i _ => 8 - (intOf i).toNat)
    case atStart => exact ⟨1, 0, 8, r.k, S9, rfl, Nat.le_refl _, hn0, rfl, rfl, Nat.zero_le _, H1, HK9, HS9⟩
    case round =>
      obtain ⟨r0, gone, f, kk, S', hf, hr1, hrn, rfl, rfl, hgr, HF, HK, HS⟩ := hrel
      have s1 : wr.cell? ⟨w2.heap.size, 1, none⟩ = some (.int .i64 (F : Int)) := cob (HSb.out wr S' HS.out) 1 rfl
      by_cases hi : r0 < Shp.n ⟨K, F⟩
      · have di : ((r0 : Nat) : Int) < ((Shp.n ⟨K, F⟩ : Nat) : Int) := by omega
        by_cases hg : gone < F
        · have dg : ((gone : Nat) : Int) < ((F : Nat) : Int) := by omega
          obtain ⟨f', rfl⟩ : ∃ f', f = f' + 1 := ⟨f - 1, by omega⟩
          have hF3 : (F : Int) ≤ 3 := by have := hs.n7; have := hs.k1; simp only [] at *; omega
          have hg8 : (gone : Int) ≤ 8 := by omega
          have hr8 : (r0 : Int) ≤ 8 := by omega
          have hbit := Lib.hid (u8_bit d r0 hd)
          rcases crashF_in HF.out hi hg with ⟨hc, k1, hk1, hF1⟩ | ⟨hc, hF1⟩
          · have HCc := Lib.hid (HCr.out C r0 kk k1 hk1 wr S' HK.out)
            have HF1 := Lib.hid hF1
            clear hk1 hF1
            rcases Nat.mod_two_eq_zero_or_one (d >>> r0) with hm | hm
            · have hb0 : bits BinOp.and IntKind.u8 ((d : Int) / 2 ^ r0) 1 = 0 := by rw [hbit.out, hm]; rfl
              have hle : ((Shp.n ⟨K, F⟩ : Nat) : Int) - (r0 : Int) ≤ (F : Int) - (gone : Int) := by
                rcases hc with hc | hc
                · omega
                · omega
              clear hc hm
              go_wp2_with (first | (go_at_call 12; refine HCc.out.mono ?_; rintro e w10 ⟨rfl, S10, hK10, hS10⟩; have HK10 := Lib.hid hK10; have HS10 := Lib.hid hS10; clear hK10 hS10))
              go_roundw
              case rel => exact ⟨r0 + 1, gone + 1, f', k1, S10, by omega, by omega, by omega, by go_num, by go_num, by omega, HF1, HK10, Lib.hid (HS.out.trans HS10.out)⟩
              case measure => simp [intOf]; omega
            · have hb0 : bits BinOp.and IntKind.u8 ((d : Int) / 2 ^ r0) 1 = 1 := by rw [hbit.out, hm]; rfl
              clear hc hm
              go_wp2_with (first | (go_at_call 12; refine HCc.out.mono ?_; rintro e w10 ⟨rfl, S10, hK10, hS10⟩; have HK10 := Lib.hid hK10; have HS10 := Lib.hid hS10; clear hK10 hS10))
              go_roundw
              case rel => exact ⟨r0 + 1, gone + 1, f', k1, S10, by omega, by omega, by omega, by go_num, by go_num, by omega, HF1, HK10, Lib.hid (HS.out.trans HS10.out)⟩
              case measure => simp [intOf]; omega
          · have HF1 := Lib.hid hF1
            clear hF1
            have hb0 : bits BinOp.and IntKind.u8 ((d : Int) / 2 ^ r0) 1 = 0 := by
              have hm : d >>> r0 % 2 = 0 := by omega
              rw [hbit.out, hm]; rfl
            have hle : (F : Int) - (gone : Int) < ((Shp.n ⟨K, F⟩ : Nat) : Int) - (r0 : Int) := by omega
            clear hc
            go_wp2
            go_roundw
            case rel => exact ⟨r0 + 1, gone, f', kk, S', by omega, by omega, by omega, by go_num, by go_num, by omega, HF1, HK, HS⟩
            case measure => simp [intOf]; omega
        · have dg : decide (((gone : Nat) : Int) < ((F : Nat) : Int)) = false := by simp; omega
          have he := crashF_out HF.out (fun h => hg h.2)
          have HKe := Lib.hid (show KAt wr S' C ⟨K, F⟩ 65536 x r.k1 by rw [he]; exact HK.out)
          clear he
          go_wp2_with fail
          go_meet
          exact ⟨S', HKe, HS⟩
      · have di : decide (((r0 : Nat) : Int) < ((Shp.n ⟨K, F⟩ : Nat) : Int)) = false := by simp; omega
        have he := crashF_out HF.out (fun h => hi h.1)
        have HKe := Lib.hid (show KAt wr S' C ⟨K, F⟩ 65536 x r.k1 by rw [he]; exact HK.out)
        clear he
        go_wp2_with fail
        go_meet
        exact ⟨S', HKe, HS⟩
  case rest =>
    obtain ⟨S1, HK1, HS1⟩ := hcut
    rename World => v1
    have HC1 := Lib.hid (HA1.out C v1 S1 HS1.out.lt HK1.out)
    have hBx := HXb.out v1 S1 HS1.out
    have x0 := cob hBx 0 rfl
    have x1 := cob hBx 1 rfl
    have x2 := cob hBx 2 rfl
    have x3 := cob hBx 3 rfl
    have x4 := cob hBx 4 rfl
    have x5 := cob hBx 5 rfl
    have x6 := cob hBx 6 rfl
    have x7 := cob hBx 7 rfl
    have x8 := cob hBx 8 rfl
    have x9 := cob hBx 9 rfl
    clear hBx
    go_wp2_with fail
    refine HC1.out.mono ?_
    rintro e v2 ⟨told, L, A, cc, S2, rfl, hO, hL, hR, hK2, hS2⟩
    obtain ⟨t, ht, h1, h2, h3⟩ := td_one hR HR.out.s3
    have hL1 : L = [t.a] := by rw [hL.out, told_len HR.out.s1, ht]; rfl
    subst hL1
    obtain ⟨g, rfl, _⟩ := hO.form (by simp)
    have q2 := hO.cell acells_len 0 2 (by simp) (.int .i64 0) (by rw [← h1]; rfl)
    simp only [Nat.zero_mul, Nat.zero_add] at q2
    have HK2 := Lib.hid hK2
    have HS2 := Lib.hid (HS1.out.trans hS2)
    clear hO hL hR hK2 hS2 ht h1 h2 h3 x0 x1 x2 x3 x4 x5 x6 x7 x8 x9
    simp only [List.length_cons, List.length_nil, Nat.zero_add]
    go_upto_block 2 with fail
    go_cut [17] (fun _ wx => ∃ S', Hid (KAt wx S' C ⟨K, F⟩ 65536 x r.k4) ∧ Hid (Step no w7 wx S'))
    case first =>
      go_wp2_with fail
      go_loopw [17] (fun i wr => ∃ (r0 f : Nat) (kk : Mdl.Km) (S' : Nat → Prop), f + r0 = 9 ∧ 1 ≤ r0 ∧ r0 ≤ Shp.n ⟨K, F⟩ ∧ i = .int .i64 r0 ∧ Hid (Mdl.crashOne (Shp.n ⟨K, F⟩) f r0 kk = some r.k4) ∧ Hid (KAt wr S' C ⟨K, F⟩ 65536 x kk) ∧ Hid (Step no w7 wr S')) (fun i _ => 8 - (intOf i).toNat)
      case atStart => exact ⟨1, 8, r.k3, S2, rfl, Nat.le_refl _, hn0, rfl, H4, HK2, HS2⟩
      case round =>
        obtain ⟨r0, f, kk, S', hf, hr1, hrn, rfl, HF, HK, HS⟩ := hrel
        by_cases hi : r0 < Shp.n ⟨K, F⟩
        · have di : ((r0 : Nat) : Int) < ((Shp.n ⟨K, F⟩ : Nat) : Int) := by omega
          obtain ⟨f', rfl⟩ : ∃ f', f = f' + 1 := ⟨f - 1, by omega⟩
          obtain ⟨nd, hnd, ⟨hu, hk⟩ | ⟨hu, hk⟩⟩ := crashOne_in HF.out hi
          · have HU := Lib.hid (HUp.out C r0 kk nd hnd wr S' HK.out)
            have HCc := Lib.hid (HCr.out C r0 kk r.k4 hk wr S' HK.out)
            rw [hu] at HU
            clear hnd hu hk
            go_wp2_with (first | (go_at_call 14; refine HU.out.mono ?_; rintro e w10 ⟨rfl, rfl⟩) | (go_at_call 12; refine HCc.out.mono ?_; rintro e w10 ⟨rfl, S10, hK10, hS10⟩; have HK10 := Lib.hid hK10; have HS10 := Lib.hid hS10; clear hK10 hS10))
            go_meet
            exact ⟨S10, HK10, Lib.hid (HS.out.trans HS10.out)⟩
          · have HU := Lib.hid (HUp.out C r0 kk nd hnd wr S' HK.out)
            have HF1 := Lib.hid hk
            rw [hu] at HU
            clear hnd hu hk
            go_wp2_with (first | (go_at_call 14; refine HU.out.mono ?_; rintro e w10 ⟨rfl, rfl⟩))
            go_roundw
            case rel => exact ⟨r0 + 1, f', kk, S', by omega, by omega, by omega, by go_num, HF1, HK, HS⟩
            case measure => simp [intOf]; omega
        · have di : decide (((r0 : Nat) : Int) < ((Shp.n ⟨K, F⟩ : Nat) : Int)) = false := by simp; omega
          have he := crashOne_out HF.out hi
          have HKe := Lib.hid (show KAt wr S' C ⟨K, F⟩ 65536 x r.k4 by rw [he]; exact HK.out)
          clear he
          go_wp2_with fail
          go_meet
          exact ⟨S', HKe, HS⟩
    case rest =>
      obtain ⟨S3, HK3, HS3⟩ := hcut
      rename World => v3
      have hBx := HXb.out v3 S3 HS3.out
      have x0 := cob hBx 0 rfl
      have x1 := cob hBx 1 rfl
      have x2 := cob hBx 2 rfl
      have x3 := cob hBx 3 rfl
      have x4 := cob hBx 4 rfl
      have x5 := cob hBx 5 rfl
      have x6 := cob hBx 6 rfl
      have x7 := cob hBx 7 rfl
      have x8 := cob hBx 8 rfl
      have x9 := cob hBx 9 rfl
      have hl3 : W.heap.size < v3.heap.size := by have := HS3.out.t.size; omega
      have xa : ∀ o, (v3.alloc o).cell? ⟨W.heap.size, 1, none⟩ = some (.int .i64 sq) := fun o => cob ((heap_alloc_old v3 o hl3).trans hBx) 1 rfl
      clear hBx
      have hsq : sq ≤ 1000000 := by omega
      go_wp2_with fail
      generalize hv4 : World.alloc v3 _ = v4
      have hY := named_new hv4.symm
      have hb4 := named_below hv4.symm
      have hz4 : v3.heap.size < v4.heap.size := by rw [named_size hv4.symm]; omega
      clear hv4 x0 x1 x2 x3 x4 x5 x6 x7 x8 x9 xa q2
      have HC4 := Lib.hid (HA2.out C v4 S3 (HS3.out.lt.wide hb4.size) (HK3.out.frame hb4.size fun j hj => hb4.block j (HS3.out.lt j hj)))
      have HYb := Lib.hid (fun (wr : World) (S' : Nat → Prop) (h : Step S3 v4 wr S') => (h.t.block v3.heap.size hz4 (fun e => absurd (HS3.out.lt _ e) (Nat.lt_irrefl _))).trans hY)
      have HEnd := Lib.hid (fun (wr : World) (S' : Nat → Prop) (h : Step S3 v4 wr S') => (show Turned no W wr from ((HT7.out.trans HS3.out.t).trans (Turned.of_below hb4)).next h.t (fun k hk => by
        rcases HS3.out.sub k hk with h | h
        · exact h.elim
        · exact .inr (Nat.le_trans (Nat.le_of_lt hl1) h))))
      clear hY hb4
      refine HC4.out.mono ?_
      rintro e v5 ⟨told2, L2, A2, cc2, S5, rfl, hO2, hL2, hR2, hK5, hS5⟩
      have hll : L2.length = r.k6.told.length - 1 := by
        have h1 := td_len hR2
        rw [hL2.out, List.length_map, List.length_drop, told_len HR.out.s4, h1]; rfl
      have HLL := Lib.hid hll
      have HC5 := Lib.hid (HTk.out C r.k6 r.k7 H7.out v5 S5 hK5)
      have HS5 := Lib.hid hS5
      clear hO2 hL2 hR2 hK5 hS5 hll
      go_wp2_with fail
      refine HC5.out.mono ?_
      rintro e v6 ⟨rfl, S6, hK6, hS6⟩
      have HS6 := Lib.hid (HS5.out.trans hS6)
      have HC6 := Lib.hid (HAl.out C r.k7 r.k8 H8.out v6 S6 HS6.out.lt hK6)
      clear hK6 hS6
      go_wp2_with fail
      refine HC6.out.mono ?_
      rintro e v7 ⟨rfl, S7, hK7, hS7⟩
      have HK7 := Lib.hid hK7
      have HS7 := Lib.hid (HS6.out.trans hS7)
      clear hK7 hS7
      by_cases hn1 : Shp.n ⟨K, F⟩ = 1
      · have hl21 : L2.length = 1 := by
          rw [HLL.out, told_len (HR.out.s6 (by rw [HNN.out]; exact hn1))]; rfl
        have dn : ((Shp.n ⟨K, F⟩ : Nat) : Int) = 1 := by omega
        rw [hl21]
        clear hl21 hn1
        go_wp2
        go_ret
        exact ⟨rfl, (HEnd.out v7 S7 HS7.out).to_below⟩
      · obtain ⟨e6, e8, eap, e10⟩ := HR.out.s8 (by rw [HNN.out]; exact hn1)
        obtain ⟨g8, g9, g10⟩ := HR.out.h9 (by rw [HNN.out]; exact hn1)
        rw [HNN.out] at g8 g9 g10
        have hl20 : L2.length = 0 := by
          rw [HLL.out, told_len e6]; rfl
        obtain ⟨nd, hnd, hu, hap⟩ := appUp_parts eap
        have HAp7 := Lib.hid (HAp.out C r.k8 nd hnd hu v7 S7 HK7.out)
        rw [hap] at HAp7
        have HTd7 := Lib.hid (HTd.out C r.k8 v7 S7 HK7.out)
        have G8 := Lib.hid g8
        have G9 := Lib.hid g9
        have G10 := Lib.hid g10
        have E8 := Lib.hid e8
        have E10 := Lib.hid e10
        have dn : decide (((Shp.n ⟨K, F⟩ : Nat) : Int) = 1) = false := by simp; omega
        rw [hl20]
        clear hl20 hnd hu hap g8 g9 g10 e6 e8 eap e10
        go_wp2_with (first | (go_at_call 16; refine HAp7.out.mono ?_; rintro e v7' ⟨rfl, rfl⟩))
        refine HTd7.out.mono ?_
        rintro e v8 ⟨told8, A8, cc8, rfl, hO8, hR8, hl8, hT8⟩
        have hl81 : told8.length = 1 := by rw [td_len hR8, told_len E8.out]; rfl
        rw [hl81]
        have HS8' := Lib.hid (show Step S3 v4 v8 S7 from HS7.out.trans (Step.of_turned (hT8.wide fun _ e _ => e.elim) HS7.out.lt))
        have HK8' := Lib.hid (HK7.out.frame hT8.size fun j hj => hT8.block j (HS7.out.lt j hj) (fun e => e))
        clear hO8 hR8 hl8 hT8 hl81
        go_wp2
        go_loopw [21] (fun i wr => ∃ (r0 f : Nat) (kk : Mdl.Km) (S' : Nat → Prop), f + r0 = 8 ∧ r0 ≤ Shp.n ⟨K, F⟩ ∧ i = .int .i64 r0 ∧ Hid (Mdl.upAll (Shp.n ⟨K, F⟩) f r0 kk = some r.u8) ∧ Hid (KAt wr S' C ⟨K, F⟩ 65536 x kk) ∧ Hid (Step S3 v4 wr S')) (fun i _ => 8 - (intOf i).toNat)
        case atStart => exact ⟨0, 8, r.k8, S7, rfl, Nat.zero_le _, rfl, G8, HK8', HS8'⟩
        case round =>
          obtain ⟨r0, f, kk, S', hf, hrn, rfl, HF, HK, HS⟩ := hrel
          by_cases hi : r0 < Shp.n ⟨K, F⟩
          · have di : ((r0 : Nat) : Int) < ((Shp.n ⟨K, F⟩ : Nat) : Int) := by omega
            obtain ⟨f', rfl⟩ : ∃ f', f = f' + 1 := ⟨f - 1, by omega⟩
            obtain ⟨kn, hu, hk⟩ := upAll_more HF.out hi
            have HD := Lib.hid (HRi.out C r0 kk kn hu wr S' HK.out)
            have HF1 := Lib.hid hk
            clear hu hk
            go_wp2_with (first | (go_at_call 12; refine HD.out.mono ?_; rintro e w10 ⟨rfl, S10, hK10, hS10⟩; have HK10 := Lib.hid hK10; have HS10 := Lib.hid hS10; clear hK10 hS10))
            go_roundw
            case rel => exact ⟨r0 + 1, f', kn, S10, by omega, by omega, by go_num, HF1, HK10, Lib.hid (HS.out.trans HS10.out)⟩
            case measure => simp [intOf]; omega
          · have di : decide (((r0 : Nat) : Int) < ((Shp.n ⟨K, F⟩ : Nat) : Int)) = false := by simp; omega
            have he := upAll_none HF.out hi
            have HC9 := Lib.hid (HTk.out C r.u8 r.k9 G9.out wr S' (by rw [he]; exact HK.out))
            clear he
            go_wp2_with fail
            refine HC9.out.mono ?_
            rintro e v9 ⟨rfl, S9, hK9, hS9⟩
            have HS9' := Lib.hid (HS.out.trans hS9)
            have HC10 := Lib.hid (HAl.out C r.k9 r.k10 G10.out v9 S9 HS9'.out.lt hK9)
            clear hK9 hS9
            go_wp2_with fail
            refine HC10.out.mono ?_
            rintro e v10 ⟨rfl, S10, hK10, hS10⟩
            have HS10' := Lib.hid (HS9'.out.trans hS10)
            have HC11 := Lib.hid (HTd.out C r.k10 v10 S10 hK10)
            clear hK10 hS10
            go_wp2_with fail
            refine HC11.out.mono ?_
            rintro e v11 ⟨told11, A11, cc11, rfl, hO11, hR11, hl11, hT11⟩
            obtain ⟨ta, tb, htt, t1, t2⟩ := td_two hR11 E10.out
            subst htt
            obtain ⟨g11, rfl, _⟩ := hO11.form (by simp)
            have q2 := hO11.cell tdcells_len 1 2 (by simp) (.int .i64 tb.a.seq) rfl
            have q3 := hO11.cell tdcells_len 1 3 (by simp) (.int .i64 tb.a.slot) rfl
            simp only [Nat.one_mul, Nat.reduceAdd] at q2 q3
            have HS11 := Lib.hid (show Step S3 v4 v11 S10 from HS10'.out.trans (Step.of_turned (hT11.wide fun _ e _ => e.elim) HS10'.out.lt))
            have y1 : v11.cell? ⟨v3.heap.size, 1, none⟩ = some (.int .i64 (sq + 1)) := cob (HYb.out v11 S10 HS11.out) 1 rfl
            have hq2 : tb.a.seq = sq + 1 := by rw [t2, HX.out]
            rw [hq2] at q2
            rw [t1] at q3
            clear hO11 hR11 hl11 hT11 t1 t2 hq2
            simp only [List.length_cons, List.length_nil, Nat.zero_add, Nat.reduceAdd]
            go_wp2
            go_quiet (fail)
            go_wp2
            go_ret
            exact ⟨rfl, below_drewN (HEnd.out v11 S10 HS11.out).to_below⟩
end Go.Proofs.YtoigogjmhkpdlaaGreat
