/- A part of the proof of WholeFew: the texts ApplyA. -/
import Derived.Test.YtoigogjmhkpdlaaGreatJ35
import Derived.BigQuiet
import Derived.Deep.DeepCutAuto
set_option maxHeartbeats 12800000
set_option maxRecDepth 100000
namespace Go.Proofs.YtoigogjmhkpdlaaGreat
open Go.RowKit
structure Ans where
  client : Int
  seq : Int
  slot : Int
  r : Rp
def acells (a : Ans) : List Value := [.int .i64 a.client, .int .i64 a.seq, .int .i64 a.slot, .int .i64 a.r.e, .bool a.r.did, .string a.r.value, .slice none 0 0]
theorem acells_len (a : Ans) : (acells a).length = 7 := rfl
theorem acells_one (a : Ans) : ∀ u ∈ acells a, u.oneCell' = true := by
  intro u hu
  simp only [acells, List.mem_cons, List.not_mem_nil, or_false] at hu
  rcases hu with rfl | rfl | rfl | rfl | rfl | rfl | rfl <;> rfl
theorem Tryz.infoAn : (Tryz.prog.info? 45).map (fun i => (i.zero, i.size, i.bytes)) = some (some (.agg #[.int .i64 0, .int .i64 0, .int .i64 0, .int .i64 0, .bool false, .string ByteArray.empty, .slice none 0 0]), 7, 80) := by kernel_rfl
theorem Pts.upd_of {p : Nat → Nat → Prop} {W W' : World} {i : Nat} {S' : Nat → Prop} (hp : Pts p W) (hz : W.heap.size ≤ W'.heap.size) (hs : ∀ k, S' k → p i k ∨ W.heap.size ≤ k) (hl : Lt S' W') : Pts (upd p i S') W' := by
  have key : ∀ b, b ≠ i → ∀ k, S' k → p b k → False := fun b hb k h1 h2 => by
    rcases hs k h1 with h | h
    · exact hp.dj i b (fun e => hb e.symm) k h h2
    · have := hp.lt b k h2; omega
  refine ⟨fun a b hab k ha hb => ?_, fun a k hk => ?_⟩
  · by_cases h1 : a = i
    · subst h1
      rw [upd_same] at ha
      rw [upd_other p _ (fun e => hab e.symm)] at hb
      exact key b (fun e => hab e.symm) k ha hb
    · rw [upd_other p _ h1] at ha
      by_cases h2 : b = i
      · subst h2
        rw [upd_same] at hb
        exact key a h1 k hb ha
      · rw [upd_other p _ h2] at hb
        exact hp.dj a b hab k ha hb
  · by_cases h1 : a = i
    · subst h1; rw [upd_same] at hk; exact hl k hk
    · rw [upd_other p _ h1] at hk
      exact Nat.lt_of_lt_of_le (hp.lt a k hk) hz
theorem napply_one (R R' : World → (Nat → Prop) → Nat → Prop) (hR : Framed R) (hR' : Framed R') (S : Nat → Prop) (N : Nat) (s : Shp) (hs : s.Ok) (me D m : Nat) (rs : List Rc) (l : LdM) (app : Nat) (cl dn : List (Value × Value))
    (hl : l.leads = true) (hch : chosenN s.q l.es = app + 1) (h64 : l.es.length ≤ 64) (hac : ∀ e ∈ l.es, e.acks.length ≤ 7) (e0 : Ent) (he : l.es[app]? = some e0) (c : Cm) (hr : rightC c = true) (hv : e0.value = strN (cmdN c)) (q0 : Int) (hq : q0 < c.seq)
    (HLast : ∀ S P w, StAt R w S P cl → Calls Tryz.prog 94 #[.pointer (some ⟨P, 0, none⟩), .int .i64 c.client] w fun e w' => e = .returned (.int .i64 q0) ∧ w = w')
    (Qc : Rp → List (Value × Value) → Prop) (HAp : ∀ S P w, StAt R w S P cl → Lt S w → Calls Tryz.prog 95 #[.pointer (some ⟨P, 0, none⟩), cmv c] w fun e W' => ∃ (r : Rp) (cl' : List (Value × Value)) (S' : Nat → Prop), e = .returned (rpv r) ∧ r.e = 0 ∧ Qc r cl' ∧ StAt R' W' S' P cl' ∧ Step S w W' S')
    (W : World) (h : NodeAt R W S N s me D m rs (some l) app cl [(.int .i64 (app : Int), .agg #[.int .i64 c.client, .int .i64 c.seq])] dn) :
    Calls Tryz.prog 107 #[.pointer (some ⟨N, 0, none⟩)] W fun e W' => ∃ (g cap : Nat) (r : Rp) (cl' dn' : List (Value × Value)) (S' : Nat → Prop), e = .returned (.slice (some ⟨g, 0, none⟩) 1 cap) ∧ OwnT acells 45 7 W' W.heap.size (some ⟨g, 0, none⟩) cap [⟨c.client, c.seq, app, r⟩] ∧ r.e = 0 ∧ Qc r cl' ∧ NodeAt R' W' S' N s me D m rs (some l) (app + 1) cl' [] dn' ∧ Step S W W' S' := by
  have HLe := Lib.hid (fun n => (nleads_any R S N s me D m rs (some l) app cl _ dn (W.drewN n) (h.frame hR (Nat.le_refl _) fun k hk => rfl)).mono (fun e w' h => (⟨by rw [h.1]; show _ = Ending.returned (.bool true); rw [show ldB (some l) = true from hl], h.2.symm⟩ : e = .returned (.bool true) ∧ w' = W.drewN n)))
  have HGet := Lib.hid (fun w => cmdget_any c hr w)
  obtain ⟨p, G, LP, ST, Mw, Md, hp, hSu, h0, hN, hlg, ⟨P, rfl, hL⟩, hst, h4, hw, h5, hd⟩ := h
  have hNl := hp.lt 0 N h0
  have hMwl := hp.lt 4 Mw h4
  have hMdl := hp.lt 5 Md h5
  have n0w : N ≠ Mw := fun e => hp.dj 0 4 (by decide) N h0 (e ▸ h4)
  have n0d : N ≠ Md := fun e => hp.dj 0 5 (by decide) N h0 (e ▸ h5)
  have nwd : Mw ≠ Md := fun e => hp.dj 4 5 (by decide) Mw h4 (e ▸ h5)
  have n03 : ¬ p 3 N := fun e => hp.dj 0 3 (by decide) N h0 e
  have n43 : ¬ p 3 Mw := fun e => hp.dj 4 3 (by decide) Mw h4 e
  have n53 : ¬ p 3 Md := fun e => hp.dj 5 3 (by decide) Md h5 e
  have HCh := Lib.hid (fun w (hb : ∀ k, p 2 k → w.heap[k]? = W.heap[k]?) (hz : W.heap.size ≤ w.heap.size) => ldchosen_any (p 2) P s hs me l.b l.ps l.es l.leads w (hL.frame hb) ((hp.lt 2).wide hz) h64 hac)
  rw [hch] at HCh
  have HVa := Lib.hid (fun w (hb : Below W.heap.size W w) => ldvalue_any (p 2) P s me l.b l.ps l.es l.leads w (hL.frame fun k hk => hb.block k (hp.lt 2 k hk)) app e0 he)
  rw [hv] at HVa
  have HN := Lib.hid hN
  obtain ⟨Y, hY⟩ : ∃ Y, W.heap[N]? = some Y := ⟨_, hN⟩
  have k5 : ∀ w : World, w.heap[N]? = some Y → w.cell? ⟨N, 5, none⟩ = some (.pointer (some ⟨P, 0, none⟩)) := fun w hw => cob (hw.trans (hY.symm.trans hN)) 5 rfl
  have k7 : ∀ w : World, w.heap[N]? = some Y → w.cell? ⟨N, 7, none⟩ = some (.int .i64 (app : Int)) := fun w hw => cob (hw.trans (hY.symm.trans hN)) 7 rfl
  have hdc : decide (((app : Nat) : Int) < ((app + 1 : Nat) : Int)) = true := by simp; omega
  have hdc2 : decide (((app + 1 : Nat) : Int) < ((app + 1 : Nat) : Int)) = false := by simp
  have HLe1 := Lib.hid (show Calls _ _ _ W.drew _ from HLe.out 1)
  have hYd : W.drew.heap[N]? = some Y := hY
  have hY1 : (W.drewN 1).heap[N]? = some Y := hY
  have HC0 := Lib.hid (HCh.out (W.drewN 1) (fun k hk => rfl) (Nat.le_refl _))
  have HG := Lib.hid hlg
  have HL := Lib.hid hL
  have HSt := Lib.hid hst
  have HW := Lib.hid hw
  have HD := Lib.hid hd
  have HSu := Lib.hid hSu
  have HQ := Lib.hid HAp
  have HLa := Lib.hid HLast
  have hal : app < l.es.length := (List.getElem?_eq_some_iff.1 he).1
  have hwr : IntKind.i64.wrap ((app : Int) + 1) = ((app + 1 : Nat) : Int) := by
    rw [IntKind.wrap_i64]; omega
  clear hN hlg hL hst hw hd hSu hr HLast HAp HLe he hv hac
  obtain ⟨cl0, sq, kind, row, col, tt, at_, value, expect, has⟩ := c
  simp only at hq
  unfold cmv cmcells at HGet HQ
  simp only [] at HGet HQ HLa ⊢
  obtain ⟨y, hy⟩ : ∃ y, y = strN (cmdN ⟨cl0, sq, kind, row, col, tt, at_, value, expect, has⟩) := ⟨_, rfl⟩
  rw [← hy] at HGet HVa
  clear hy
  have d1 : decide (q0 < sq) = true := by simp; omega
  go_enter Tryz.func107, Tryz.ntmps107
  go_wp2
  refine wp_loop_rounds 2 ?_
  rw [rounds_succ]
  go_wp2
  go_region_held3 (fun w' => w'.heap[N]? = some Y)
    (first | with_reducible exact hY | with_reducible exact hYd | with_reducible exact hY1 | with_reducible exact hY2)
    (first | (go_at_call 62; (with_reducible refine HLe1.out.mono ?_); rintro e w1 ⟨rfl, rfl⟩) | (go_at_call 143; (with_reducible refine HC0.out.mono ?_); rintro e w2 ⟨rfl, hb2⟩; have hY2 := (hb2.block N hNl).trans hYd))
  have hB2 : Below W.heap.size W w2 := below_undrewN hb2
  have HVx := Lib.hid (HVa.out w2 hB2)
  have a5 := k5 w2 hY2
  have a7 := k7 w2 hY2
  clear hb2
  go_wp2_with fail
  refine HVx.out.mono ?_
  rintro e w3 ⟨rfl, hb3⟩
  have hB3 := below_next hB2 hb3
  have hY3 := (hb3.block N (by have := hB2.size; omega)).trans hY2
  have hNs3 := hY3.trans (hY.symm.trans HN.out)
  have hfr3 : ∀ j, w3.frozen? ⟨N, j, none⟩ = false := fun j => by simp [World.frozen?, hNs3]
  clear a5 a7
  have a7 := k7 w3 hY3
  have HNs3 := Lib.hid hNs3
  clear hNs3 hb3
  go_upto_region 6 with (fail)
  have gN := heap_setCell_same w3 N 7 _ _ (.int .i64 ((app : Int) + 1)) HNs3.out
  have T4 : Turned (fun k => k = N) W (w3.setCell ⟨N, 7, none⟩ (.int .i64 ((app : Int) + 1))) := Turned.setCell (S := fun k => k = N) (Turned.of_below hB3) (p := ⟨N, 7, none⟩) (.inl rfl) _
  obtain ⟨w4, hw4⟩ : ∃ w4, w4 = w3.setCell ⟨N, 7, none⟩ (.int .i64 ((app : Int) + 1)) := ⟨_, rfl⟩
  rw [← hw4] at gN T4 ⊢
  clear hw4 a7 hfr3
  obtain ⟨Y1, hY4⟩ : ∃ Y1, w4.heap[N]? = some Y1 := ⟨_, gN⟩
  have j5 : ∀ w : World, w.heap[N]? = some Y1 → w.cell? ⟨N, 5, none⟩ = some (.pointer (some ⟨P, 0, none⟩)) := fun w hw => cob (hw.trans (hY4.symm.trans gN)) 5 rfl
  have j6 : ∀ w : World, w.heap[N]? = some Y1 → w.cell? ⟨N, 6, none⟩ = some (.pointer (some ⟨ST, 0, none⟩)) := fun w hw => cob (hw.trans (hY4.symm.trans gN)) 6 rfl
  have j7 : ∀ w : World, w.heap[N]? = some Y1 → w.cell? ⟨N, 7, none⟩ = some (.int .i64 ((app : Int) + 1)) := fun w hw => cob (hw.trans (hY4.symm.trans gN)) 7 rfl
  have j9 : ∀ w : World, w.heap[N]? = some Y1 → w.cell? ⟨N, 9, none⟩ = some (.map (some Mw)) := fun w hw => cob (hw.trans (hY4.symm.trans gN)) 9 rfl
  have j10 : ∀ w : World, w.heap[N]? = some Y1 → w.cell? ⟨N, 10, none⟩ = some (.map (some Md)) := fun w hw => cob (hw.trans (hY4.symm.trans gN)) 10 rfl
  have GN := Lib.hid (hY4.symm.trans gN)
  have hz4 := T4.size
  clear gN k5 k7 hY hYd hY1 hY2 hY3 HLe1 HC0
  go_wp2_with fail
  refine (HGet.out w4).mono ?_
  rintro e w5 ⟨rfl, hb5⟩
  have hY5 := (hb5.block N (by omega)).trans hY4
  have T5 := T4.below hb5 hz4
  have hz5 := T5.size
  go_upto_region 8 with (fail)
  generalize hw6 : World.alloc w5 _ = w6
  have hX6 := named_new hw6.symm
  have hb6 := named_below hw6.symm
  have hz6 := named_size hw6.symm
  clear hw6
  have hY6 := (hb6.block N (by omega)).trans hY5
  have T6 := T5.below hb6 hz5
  obtain ⟨Z, hZ6⟩ : ∃ Z, w6.heap[w5.heap.size]? = some Z := ⟨_, hX6⟩
  have z0 : ∀ w : World, w.heap[w5.heap.size]? = some Z → w.cell? ⟨w5.heap.size, 0, none⟩ = some (.int .i64 cl0) := fun w hw => cob (hw.trans (hZ6.symm.trans hX6)) 0 rfl
  have z1 : ∀ w : World, w.heap[w5.heap.size]? = some Z → w.cell? ⟨w5.heap.size, 1, none⟩ = some (.int .i64 sq) := fun w hw => cob (hw.trans (hZ6.symm.trans hX6)) 1 rfl
  have z2 : ∀ w : World, w.heap[w5.heap.size]? = some Z → w.cell? ⟨w5.heap.size, 2, none⟩ = some (.int .i64 kind) := fun w hw => cob (hw.trans (hZ6.symm.trans hX6)) 2 rfl
  have z3 : ∀ w : World, w.heap[w5.heap.size]? = some Z → w.cell? ⟨w5.heap.size, 3, none⟩ = some (.string row) := fun w hw => cob (hw.trans (hZ6.symm.trans hX6)) 3 rfl
  have z4 : ∀ w : World, w.heap[w5.heap.size]? = some Z → w.cell? ⟨w5.heap.size, 4, none⟩ = some (.string col) := fun w hw => cob (hw.trans (hZ6.symm.trans hX6)) 4 rfl
  have z5 : ∀ w : World, w.heap[w5.heap.size]? = some Z → w.cell? ⟨w5.heap.size, 5, none⟩ = some (.string tt) := fun w hw => cob (hw.trans (hZ6.symm.trans hX6)) 5 rfl
  have z6 : ∀ w : World, w.heap[w5.heap.size]? = some Z → w.cell? ⟨w5.heap.size, 6, none⟩ = some (.int .i64 at_) := fun w hw => cob (hw.trans (hZ6.symm.trans hX6)) 6 rfl
  have z7 : ∀ w : World, w.heap[w5.heap.size]? = some Z → w.cell? ⟨w5.heap.size, 7, none⟩ = some (.string value) := fun w hw => cob (hw.trans (hZ6.symm.trans hX6)) 7 rfl
  have z8 : ∀ w : World, w.heap[w5.heap.size]? = some Z → w.cell? ⟨w5.heap.size, 8, none⟩ = some (.string expect) := fun w hw => cob (hw.trans (hZ6.symm.trans hX6)) 8 rfl
  have z9 : ∀ w : World, w.heap[w5.heap.size]? = some Z → w.cell? ⟨w5.heap.size, 9, none⟩ = some (.bool has) := fun w hw => cob (hw.trans (hZ6.symm.trans hX6)) 9 rfl
  have hst6 : ∀ n, StAt R (w6.drewN n) (p 3) ST cl := fun n => HSt.out.frame hR fun k hk => T6.block k (hp.lt 3 k hk) (fun e => n03 (e ▸ hk))
  have HLs := Lib.hid (fun n => (HLa.out (p 3) ST (w6.drewN n) (hst6 n)).mono (fun e w' h => (⟨h.1, h.2.symm⟩ : e = .returned (.int .i64 q0) ∧ w' = w6.drewN n)))
  have b6 := j6 w6 hY6
  have x0 := z0 w6 hZ6
  have x1 := z1 w6 hZ6
  have HST6 := Lib.hid hst6
  clear hX6 hst6 hY4 hY5
  go_wp2
  go_quiet (first | (go_at_call 94; exact Calls.quiet_of_same (HLs.out _)))
  clear b6 x0 x1
  obtain ⟨w7, dn', hst7, hM7, _, hg7, hz7⟩ := (HD.out.of_block (w' := w6.drewN (nq + 1)) (T6.block Md hMdl (fun e => n0d e.symm))).store_any (P := Tryz.prog) (t := 148) (key := .int .i64 cl0) Tryz.underlying148 Tryz.underlying3 rfl (.int .i64 (app : Int))
  have hz67 : w7.heap.size = w6.heap.size := hz7
  have hY6n : (w6.drewN nq).heap[N]? = some Y1 := hY6
  have hY6d : (w6.drewN (nq + 1)).heap[N]? = some Y1 := hY6
  have hZ6n : (w6.drewN nq).heap[w5.heap.size]? = some Z := hZ6
  have hZ6d : (w6.drewN (nq + 1)).heap[w5.heap.size]? = some Z := hZ6
  have hY6e : (w6.drewN nq).drew.heap[N]? = some Y1 := hY6
  have hZ6e : (w6.drewN nq).drew.heap[w5.heap.size]? = some Z := hZ6
  have hY7 : w7.heap[N]? = some Y1 := (hg7.block N (show N < w6.heap.size by omega) (fun e => n0d (by injection e))).trans hY6d
  have hZ7 : w7.heap[w5.heap.size]? = some Z := (hg7.block w5.heap.size (show _ < w6.heap.size by omega) (fun e => by injection e with e; omega)).trans hZ6d
  have T7 : Turned (fun k => k = N ∨ k = Md) W w7 := ((T6.wide (S2 := fun k => k = N ∨ k = Md) fun k hk _ => .inl hk).drewN (nq + 1)).grown hg7 fun k hk => .inl (.inr (by injection hk with hk; exact hk.symm))
  have HM7 := Lib.hid hM7
  have hz70 : w5.heap.size < w7.heap.size := by omega
  clear hM7 hg7 hz7 T6 T5 T4
  go_wp2
  go_region_held3 (fun w' => w'.heap[N]? = some Y1 ∧ w'.heap[w5.heap.size]? = some Z)
    (first | with_reducible exact And.intro hY6n hZ6n | with_reducible exact And.intro hY6d hZ6d | with_reducible exact And.intro hY6e hZ6e | with_reducible exact And.intro hY7 hZ7)
    (fail)
  have hz57 : w5.heap.size + 1 ≤ w7.heap.size := by omega
  clear hz6 hz67
  clear hst7 hY6 hZ6 hY6n hZ6n hY6d hZ6d hY6e hZ6e
  have hst8 : StAt R w7.drew (p 3) ST cl := HSt.out.frame hR fun k hk => T7.block k (hp.lt 3 k hk) (fun e => by rcases e with rfl | rfl <;> contradiction)
  have hLt8 : Lt (p 3) w7.drew := (hp.lt 3).wide T7.size
  have HAx := Lib.hid (HQ.out (p 3) ST w7.drew hst8 hLt8)
  have hY7d : w7.drew.heap[N]? = some Y1 := hY7
  have hZ7d : w7.drew.heap[w5.heap.size]? = some Z := hZ7
  have nB : ¬ p 3 w5.heap.size := fun h => by have := hp.lt 3 _ h; omega
  have hN7 : N < w7.heap.size := by omega
  have hLt8b : ∀ o, Lt (p 3) (w7.alloc o).drew := fun o k hk => by have := hLt8 k hk; rw [drew_size] at this; show k < (w7.alloc o).heap.size; simp; omega
  have HAy := Lib.hid (HQ.out (p 3) ST (w7.alloc (.cells #[.int .i64 0, .bool false, .string { data := #[] }, .slice none 0 0] 43)).drew (StAt.frame (W' := (w7.alloc (.cells #[.int .i64 0, .bool false, .string { data := #[] }, .slice none 0 0] 43)).drew) hR hst8 (fun k hk => heap_alloc_old w7 _ (by have := hLt8 k hk; rw [drew_size] at this; exact this))) (hLt8b _))
  have hYa : ∀ o, (w7.alloc o).drew.heap[N]? = some Y1 := fun o => (heap_alloc_old w7 o hN7).trans hY7
  have hZa : ∀ o, (w7.alloc o).drew.heap[w5.heap.size]? = some Z := fun o => (heap_alloc_old w7 o hz70).trans hZ7
  clear hst8
  go_wp2
  go_cut [9] (fun c9 wx => ∃ (B : Nat) (rd : Bool) (rv : ByteArray) (cl' : List (Value × Value)) (S3 : Nat → Prop), c9 = .pointer (some ⟨B, 0, none⟩) ∧ wx.heap[B]? = some (.cells #[.int .i64 0, .bool rd, .string rv, .slice none 0 0] 43) ∧ w7.heap.size ≤ B ∧ wx.heap[N]? = some Y1 ∧ wx.heap[w5.heap.size]? = some Z ∧ Qc ⟨0, rd, rv⟩ cl' ∧ StAt R' wx S3 ST cl' ∧ (∀ k, S3 k → p 3 k ∨ w7.heap.size ≤ k) ∧ Lt S3 wx ∧ Turned (p 3) w7 wx)
  case first =>
    go_region_held3 (fun w' => w'.heap[N]? = some Y1 ∧ w'.heap[w5.heap.size]? = some Z)
      (first | with_reducible exact And.intro hY7 hZ7 | with_reducible exact And.intro hY7d hZ7d | with_reducible exact And.intro (hYa _) (hZa _) | with_reducible exact And.intro hY8 hZ8 | with_reducible exact And.intro (hY9 _) (hZ9 _) | with_reducible exact And.intro (hY9 _ _ _ _) (hZ9 _ _ _ _))
      (first
        | (go_at_call 95; (with_reducible refine HAx.out.mono ?_); rintro e w8 ⟨⟨re, rd, rv⟩, cl', S3, rfl, re0, hQc, hSt8, hStp8⟩; have re1 : re = 0 := re0; subst re1; clear re0; unfold rpv rpcells; simp only []; have hz8 : w7.heap.size ≤ w8.heap.size := hStp8.t.size; have hY8 := (hStp8.t.block N hN7 n03).trans hY7d; have hZ8 := (hStp8.t.block w5.heap.size hz70 nB).trans hZ7d; have hY9 := (fun o => (heap_alloc_old w8 o (by omega)).trans hY8); have hZ9 := (fun o => (heap_alloc_old w8 o (by omega)).trans hZ8); have HR8 := Lib.hid True.intro)
        | (go_at_call 95; (with_reducible refine HAy.out.mono ?_); rintro e w8 ⟨⟨re, rd, rv⟩, cl', S3, rfl, re0, hQc, hSt8, hStp8⟩; have re1 : re = 0 := re0; subst re1; clear re0; unfold rpv rpcells; simp only []; have hz8' := hStp8.t.size; have hz8 : w7.heap.size + 1 ≤ w8.heap.size := (by rw [drew_size] at hz8'; simpa using hz8'); have hY8 := (hStp8.t.block N (by rw [drew_size]; simp; omega) n03).trans (hYa _); have hZ8 := (hStp8.t.block w5.heap.size (by rw [drew_size]; simp; omega) nB).trans (hZa _); have nW7 : ¬ p 3 w7.heap.size := (fun h => by have := hLt8 _ h; rw [drew_size] at this; omega); have hR8 := (hStp8.t.block w7.heap.size (by rw [drew_size]; simp) nW7).trans (heap_alloc_new w7 _); have HR8 := Lib.hid hR8; have r0 : w8.cell? ⟨w7.heap.size, 0, none⟩ = _ := cob hR8 0 rfl; have r1 : w8.cell? ⟨w7.heap.size, 1, none⟩ = _ := cob hR8 1 rfl; have r2 : w8.cell? ⟨w7.heap.size, 2, none⟩ = _ := cob hR8 2 rfl; have r3 : w8.cell? ⟨w7.heap.size, 3, none⟩ = _ := cob hR8 3 rfl; have hfr8 : ∀ j, w8.frozen? ⟨w7.heap.size, j, none⟩ = false := (fun j => by simp [World.frozen?, hR8]); have hY9 := (fun a b c d => (set4_other w8 w7.heap.size a b c d N (by omega)).trans hY8); have hZ9 := (fun a b c d => (set4_other w8 w7.heap.size a b c d w5.heap.size (by omega)).trans hZ8); clear hR8))
    all_goals
      go_wp2_with fail
      go_meet
      first
        | exact ⟨w8.heap.size, rd, rv, cl', S3, rfl, heap_alloc_new _ _, hz8, hY9 _, hZ9 _, hQc, hSt8.frame hR' (fun k hk => heap_alloc_old w8 _ (hStp8.lt k hk)), fun k hk => hStp8.sub k hk, fun k hk => Nat.lt_of_lt_of_le (hStp8.lt k hk) (by simp), (Turned.undrew hStp8.t).alloc _⟩
        | exact ⟨w7.heap.size, rd, rv, cl', S3, rfl, set4_same HR8.out _ _ _ _, Nat.le_refl _, hY9 _ _ _ _, hZ9 _ _ _ _, hQc, hSt8.frame hR' (fun k hk => set4_other w8 w7.heap.size _ _ _ _ k (fun e => by
            rcases hStp8.sub k hk with h | h
            · exact nW7 (e ▸ h)
            · rw [drew_size] at h; simp at h; omega)), fun k hk => by
              rcases hStp8.sub k hk with h | h
              · exact .inl h
              · rw [drew_size] at h; simp at h; exact .inr (by omega), fun k hk => by simp only [set4_size]; exact hStp8.lt k hk, Turned.set4 (((Turned.refl (p 3) w7).alloc _).trans (Turned.undrew hStp8.t |>.wide fun k hk _ => hk)) (Nat.le_refl _) _ _ _ _⟩
  case rest =>
    obtain ⟨B, rd, rv, cl', S3, rfl, hB9, hzB, hY9, hZ9, hQc, hSt9, hsub9, hlt9, T79⟩ := hcut
    obtain ⟨i1, hi1, hy0, hy1, hy2⟩ := info_parts Tryz.infoAn
    have hz7c := T79.size
    have hBl : B < wc.heap.size := (Array.getElem?_eq_some_iff.1 hB9).1
    have hW9 : MapIs wc (.int .i64) Mw [(.int .i64 (app : Int), .agg #[.int .i64 cl0, .int .i64 sq])] := HW.out.of_block ((T79.block Mw (by omega) n43).trans (T7.block Mw hMwl (fun e => by rcases e with e | e; exact n0w e.symm; exact nwd e)))
    have hlk : ∀ n, (Instr.lookup 147 (.map (some Mw)) (.int .i64 (app : Int)) false).run Tryz.prog (wc.drewN n) = .ok (.agg #[.int .i64 cl0, .int .i64 sq]) (wc.drewN n) := fun n => by
      have hl := (hW9.of_block (w' := wc.drewN n) rfl).look (P := Tryz.prog) (key := .int .i64 (app : Int)) Tryz.underlying147 Tryz.underlying3 rfl false (v := .agg #[.int .i64 cl0, .int .i64 sq]) (by simp)
      simp only [Bool.false_eq_true, if_false] at hl
      exact hl
    have c9 := j9 wc hY9
    have x0 := z0 wc hZ9
    have x1 := z1 wc hZ9
    have y0 : wc.cell? ⟨B, 0, none⟩ = some (.int .i64 0) := cob hB9 0 rfl
    have y1 : wc.cell? ⟨B, 1, none⟩ = some (.bool rd) := cob hB9 1 rfl
    have y2 : wc.cell? ⟨B, 2, none⟩ = some (.string rv) := cob hB9 2 rfl
    have y3 : wc.cell? ⟨B, 3, none⟩ = some (.slice none 0 0) := cob hB9 3 rfl
    have HW9 := Lib.hid hW9
    clear hB9 hW9
    go_wp2
    go_quiet (fail)
    have hWc : W.heap.size ≤ wc.heap.size := Nat.le_trans T7.size hz7c
    go_upto_region 13 with (at_builtin; refine wpList_append_st acells _ acells_one rfl _ _ _ rfl W.heap.size 45 i1 _ 7 80 acells_len (by decide) Tryz.underlying38 hi1 hy0 hy1 hy2 rfl _ _ [] rfl (OwnT.nil _ _ _ _ _) wc.heap.size _ ⟨cl0, sq, app, ⟨0, rd, rv⟩⟩ (0, 0) _ rfl (heap_alloc_new (wc.drewN nq) _) (by simp [maxLen]) (by simp) (by simp; omega) ?_; intro L A c w10 H ho hb hg hAB)
    have hL : L = [⟨cl0, sq, app, ⟨0, rd, rv⟩⟩] := H.out
    subst hL
    have hk10 : ∀ k, k < wc.heap.size → w10.heap[k]? = wc.heap[k]? := fun k hk => (hg.block k (by simp; omega) (fun e => by cases e)).trans (heap_alloc_old (wc.drewN nq) _ hk)
    have hz10 : wc.heap.size ≤ w10.heap.size := by have := hg.size; simp at this; omega
    have T10 : Turned (fun k => k = N ∨ k = Md ∨ p 3 k) W w10 := ((((T7.wide (S2 := fun k => k = N ∨ k = Md ∨ p 3 k) fun k hk _ => by rcases hk with h | h; exact .inl h; exact .inr (.inl h)).next T79 (fun k hk => .inl (.inr (.inr hk)))).drewN nq).alloc _).grown hg fun k hk => by cases hk
    have hY10 := (hk10 N (by omega)).trans hY9
    have hM10 := HW9.out.of_block (hk10 Mw (by omega))
    have d9 := j9 w10 hY10
    have hO10 := Lib.hid ho
    clear c9 x0 x1 y0 y1 y2 y3 ho hb hg
    obtain ⟨w11, hd11, hM11, hg11, hz11⟩ := hM10.drop (P := Tryz.prog) (t := 147) (key := .int .i64 (app : Int)) Tryz.underlying147 Tryz.underlying3 rfl (j := 0) (v0 := .agg #[.int .i64 cl0, .int .i64 sq]) rfl 0
    have hza : w10.heap.size ≤ w11.heap.size := Nat.le_of_eq hz11.symm
    have hk11 : ∀ k, k < w10.heap.size → k ≠ Mw → w11.heap[k]? = w10.heap[k]? := fun k hk hn => hg11.block k hk (fun e => hn (by injection e))
    have T11 : Turned (uni p) W w11 := (T10.wide (S2 := uni p) fun k hk _ => by
      rcases hk with rfl | rfl | hk
      · exact ⟨0, h0⟩
      · exact ⟨5, h5⟩
      · exact ⟨3, hk⟩).grown hg11 fun k hk => .inl ⟨4, by injection hk with hk; exact hk ▸ h4⟩
    have hY11 := (hk11 N (by omega) n0w).trans hY10
    have hM11' : MapIs w11 (.int .i64) Mw [] := hM11
    have hO11 := Lib.hid (hO10.out.of_block (fun k hk => hk11 k (hO10.out.lt k hk).2 (fun e => by have := (hO10.out.lt k hk).1; omega)))
    have hs3 : ∀ k, S3 k → p 3 k ∨ W.heap.size ≤ k := fun k hk => by
      rcases hsub9 k hk with h | h
      · exact .inl h
      · have := T7.size; exact .inr (by omega)
    have hp9 : Pts (upd p 3 S3) w11 := hp.upd_of T11.size hs3 (fun k hk => by have := hlt9 k hk; omega)
    have hfr : ∀ j, j ≠ 3 → j ≠ 0 → j ≠ 4 → j ≠ 5 → ∀ k, p j k → w11.heap[k]? = W.heap[k]? := fun j a3 a0 a4 a5 k hk => by
      have hkl := hp.lt j k hk
      have hk7 : k < w7.heap.size := Nat.lt_of_lt_of_le hkl T7.size
      have b1 : k ≠ Mw := fun e => hp.dj j 4 a4 k hk (e ▸ h4)
      have b2 : ¬ p 3 k := fun e => hp.dj j 3 a3 k hk e
      have b3 : ¬ (k = N ∨ k = Md) := fun e => by
        rcases e with e | e
        · exact hp.dj j 0 a0 k hk (e ▸ h0)
        · exact hp.dj j 5 a5 k hk (e ▸ h5)
      exact (hk11 k (by omega) b1).trans ((hk10 k (by omega)).trans ((T79.block k hk7 b2).trans (T7.block k hkl b3)))
    have hNd : NodeAt R' w11 (uni (upd p 3 S3)) N s me D m rs (some l) (app + 1) cl' [] dn' := by
      refine ⟨upd p 3 S3, G, some ⟨P, 0, none⟩, ST, Mw, Md, hp9, fun k hk => hk, by rw [upd_other p _ (by decide)]; exact h0, hY11.trans GN.out, ?_, ⟨P, rfl, ?_⟩, ?_, by rw [upd_other p _ (by decide)]; exact h4, hM11', by rw [upd_other p _ (by decide)]; exact h5, ?_⟩
      · rw [upd_other p _ (by decide)]
        exact HG.out.frame (hfr 1 (by decide) (by decide) (by decide) (by decide))
      · rw [upd_other p _ (by decide)]
        exact HL.out.frame (hfr 2 (by decide) (by decide) (by decide) (by decide))
      · rw [upd_same]
        refine hSt9.frame hR' fun k hk => ?_
        have hkw := hlt9 k hk
        exact (hk11 k (by omega) (fun e => by
          rcases hsub9 k hk with h | h
          · exact n43 (e ▸ h)
          · have := T7.size; omega)).trans (hk10 k hkw)
      · exact HM7.out.of_block ((hk11 Md (by omega) (fun e => nwd e.symm)).trans ((hk10 Md (by omega)).trans (T79.block Md (by omega) n53)))
    clear hz11 hM11 hg11
    have e5 := j5 w11 hY11
    have e7 := j7 w11 hY11
    have HLf := Lib.hid (fun n => (nleads_any R' (uni (upd p 3 S3)) N s me D m rs (some l) (app + 1) cl' [] dn' (w11.drewN n) (hNd.frame hR' (Nat.le_refl _) fun k hk => rfl)).mono (fun e w' h => (⟨by rw [h.1]; show _ = Ending.returned (.bool true); rw [show ldB (some l) = true from hl], h.2.symm⟩ : e = .returned (.bool true) ∧ w' = w11.drewN n)))
    have HLf1 := Lib.hid (show Calls _ _ _ w11.drew _ from HLf.out 1)
    have HCf := Lib.hid (HCh.out (w11.drewN 1) (hfr 2 (by decide) (by decide) (by decide) (by decide)) T11.size)
    have hY11d : w11.drew.heap[N]? = some Y1 := hY11
    have hY11n : (w11.drewN 1).heap[N]? = some Y1 := hY11
    have HNd := Lib.hid hNd
    have HT11 := Lib.hid T11
    have HM11 := Lib.hid hM11'
    have hN11 : N < w11.heap.size := by omega
    clear hNd hM11' T11 T10
    go_wp2
    rw [rounds_succ]
    go_wp2
    go_region_held3 (fun w' => w'.heap[N]? = some Y1)
      (first | with_reducible exact hY11 | with_reducible exact hY11d | with_reducible exact hY11n | with_reducible exact hY12)
      (first | (go_at_call 62; (with_reducible refine HLf1.out.mono ?_); rintro e w1 ⟨rfl, rfl⟩) | (go_at_call 143; (with_reducible refine HCf.out.mono ?_); rintro e w12 ⟨rfl, hb12⟩; have hY12 := (hb12.block N hN11).trans hY11d))
    go_wp2
    go_ret
    have hb12' : Below w11.heap.size w11 w12 := below_undrewN hb12
    obtain ⟨g, hAg, _⟩ := hO11.out.form (by simp)
    subst hAg
    have hTS : Turned S W w12 := (HT11.out.wide fun k hk _ => HSu.out k hk).below hb12' HT11.out.size
    refine ⟨g, c, ⟨0, rd, rv⟩, cl', dn', uni (upd p 3 S3), rfl, hO11.out.of_block (fun k hk => hb12'.block k (hO11.out.lt k hk).2), rfl, hQc, HNd.out.frame hR' hb12'.size (fun k hk => hb12'.block k (hp9.uni_lt k hk)), hTS, fun k hk => ?_, fun k hk => Nat.lt_of_lt_of_le (hp9.uni_lt k hk) hb12'.size⟩
    obtain ⟨j, hj⟩ := hk
    by_cases h3 : j = 3
    · subst h3
      rw [upd_same] at hj
      rcases hs3 k hj with h | h
      · exact .inl (HSu.out k ⟨3, h⟩)
      · exact .inr h
    · rw [upd_other p _ h3] at hj
      exact .inl (HSu.out k ⟨j, hj⟩)
end Go.Proofs.YtoigogjmhkpdlaaGreat
