/- A part of the proof of WholeFew: the texts FlushC, StateG, StateH. -/
import Derived.Test.YtoigogjmhkpdlaaGreatJ32
import Derived.Test.YtoigogjmhkpdlaaGreatJ34
set_option maxHeartbeats 3200000
set_option maxRecDepth 100000
namespace Go.Proofs.YtoigogjmhkpdlaaGreat
open Go.RowKit
theorem flushE_ok (c : Cl) (hok : ClOk c) (hlen : 200 ≤ (cellN c).length) : FlushE c :=
  fun T M g cap n W hT hM h => tflush_e T M g cap c hok hlen n W hT hM h
theorem flushT_ok (c : Cl) (hok : ClOk c) (hlen : 200 ≤ (cellN c).length) : FlushT c :=
  fun T M g cap Lv lc Lt tc0 X0 n W hT hM h hv ht h1 h2 => tflush_t T M g cap Lv lc Lt tc0 X0 c hok hlen n W hT hM h hv ht h1 h2
theorem tput_1 (T : Nat) (c : Cl) (hok : ClOk c) (S : Nat → Prop) (W : World) (h : TreeE W S T) (hS : Lt S W) :
    Calls Tryz.prog 209 #[.pointer (some ⟨T, 0, none⟩), clv c] W fun e W' => e = .returned (.int .i64 0) ∧ TreeS c W' (fun k => S k ∨ (W.heap.size ≤ k ∧ k < W'.heap.size)) T ∧ Turned S W W' :=
  (tput_e T c hok (fun hl => flushE_ok c hok hl) S W h hS).mono fun _ _ h => ⟨h.1, .inr h.2.1, h.2.2⟩
def TreeU : World → (Nat → Prop) → Nat → Prop := fun _ _ _ => True
theorem TreeU.framed : Framed TreeU := ⟨fun _ _ => trivial, fun _ _ => trivial⟩
theorem tput_2 (T : Nat) (c : Cl) (hok : ClOk c) (S : Nat → Prop) (W : World) (h : TreeS c W S T) (hS : Lt S W) :
    Calls Tryz.prog 209 #[.pointer (some ⟨T, 0, none⟩), clv c] W fun e W' => e = .returned (.int .i64 0) ∧ TreeU W' (fun k => S k ∨ (W.heap.size ≤ k ∧ k < W'.heap.size)) T ∧ Turned S W W' := by
  rcases h with h | h | h
  · exact (tput_1 T c hok S W h hS).mono fun e W' h => ⟨h.1, trivial, h.2.2⟩
  · exact (tput_m T c hok S W h hS).mono fun e W' h => ⟨h.1, trivial, h.2⟩
  · have hl : 200 ≤ (cellN c).length := by
      obtain ⟨M, Lv, lc, Lt, tc, X, _, _, _, _, _, hl, _⟩ := h
      exact hl
    exact (tput_t T c hok (flushT_ok c hok hl) S W h hS).mono fun e W' h => ⟨h.1, trivial, h.2⟩
def TreeK (c : Cm) : World → (Nat → Prop) → Nat → Prop :=
  if c.kind = 2 then TreeS ⟨c.row, c.col, c.at_, { data := #[] }, true⟩ else if c.kind ≤ 3 then TreeS ⟨c.row, c.col, c.at_, c.value, false⟩ else TreeE
theorem TreeK.framed (c : Cm) : Framed (TreeK c) := by
  unfold TreeK
  split
  · exact TreeS.framed _
  · split
    · exact TreeS.framed _
    · exact TreeE.framed
theorem clok_of {c : Cm} (h : rightC c = true) (h5 : c.kind ≠ 5) : ClOk ⟨c.row, c.col, c.at_, c.value, false⟩ ∧ ClOk ⟨c.row, c.col, c.at_, { data := #[] }, true⟩ := by
  simp only [rightC, soundB, fitsB, if_neg h5, Bool.and_eq_true] at h
  have h1 := ok_right h.1.2.1
  exact ⟨h1, ⟨h1.r1, h1.r2, h1.c1, h1.c2, h1.a1, h1.a2, (by decide : ((0 : Nat) ≤ 256)), fun _ => rfl⟩⟩
theorem kind_of {c : Cm} (h : rightC c = true) : 1 ≤ c.kind ∧ c.kind ≤ 5 ∧ 0 ≤ c.at_ := by
  simp only [rightC, Bool.and_eq_true] at h
  have := sound_sizes h.1
  exact ⟨this.k1, this.k2, this.a1⟩
theorem stdone_1 (c : Cm) (hr : rightC c = true) (S : Nat → Prop) (P T : Nat) (v1 : Value) (W : World) (hP : W.heap[P]? = some (.cells #[.pointer (some ⟨T, 0, none⟩), v1] 213)) (h : TreeE W S T) (hS : Lt S W) (hPS : ¬ S P) :
    Calls Tryz.prog 131 #[.pointer (some ⟨P, 0, none⟩), cmv c] W fun e W' => (∃ r : Rp, e = .returned (rpv r) ∧ r.e = 0) ∧ TreeK c W' (fun k => S k ∨ (W.heap.size ≤ k ∧ k < W'.heap.size)) T ∧ Turned S W W' := by
  obtain ⟨k1, k5, ha⟩ := kind_of hr
  have hPl := (Array.getElem?_eq_some_iff.1 hP).1
  have hPb : ∀ w, Below W.heap.size W w → w.heap[P]? = some (.cells #[.pointer (some ⟨T, 0, none⟩), v1] 213) := fun w hb => (hb.block P hPl).trans hP
  have hTb : ∀ w, Below W.heap.size W w → TreeE w S T := fun w hb => TreeE.framed.frame h fun k hk => hb.block k (hS k hk)
  refine stdone_of c k1 k5 (TreeK c) (TreeK.framed c) S P T W hS fun w hb => ?_
  have hS' : Lt S w := hS.wide hb.size
  have hk : c.kind = 1 ∨ c.kind = 2 ∨ c.kind = 3 ∨ c.kind = 4 ∨ c.kind = 5 := by omega
  rcases hk with hk | hk | hk | hk | hk
  · obtain ⟨o1, o2⟩ := clok_of hr (by omega)
    have e1 : kindF c.kind = 171 := by rw [hk]; rfl
    have e2 : TreeK c = TreeS ⟨c.row, c.col, c.at_, c.value, false⟩ := by unfold TreeK; rw [hk]; rfl
    rw [e1, e2]
    exact stput_of c _ (TreeS.framed _) S P T v1 w (hPb w hb) hS' hPS fun w2 hb2 => tput_1 T _ o1 S w2 (hTb w2 (below_next hb hb2)) (hS'.wide hb2.size)
  · obtain ⟨o1, o2⟩ := clok_of hr (by omega)
    have e1 : kindF c.kind = 172 := by rw [hk]; rfl
    have e2 : TreeK c = TreeS ⟨c.row, c.col, c.at_, { data := #[] }, true⟩ := by unfold TreeK; rw [hk]; rfl
    rw [e1, e2]
    exact stgone_of c _ (TreeS.framed _) S P T v1 w (hPb w hb) hS' hPS fun w2 hb2 => tput_1 T _ o2 S w2 (hTb w2 (below_next hb hb2)) (hS'.wide hb2.size)
  · obtain ⟨o1, o2⟩ := clok_of hr (by omega)
    have e1 : kindF c.kind = 173 := by rw [hk]; rfl
    have e2 : TreeK c = TreeS ⟨c.row, c.col, c.at_, c.value, false⟩ := by unfold TreeK; rw [hk]; rfl
    rw [e1, e2]
    exact stcheck_of c _ (TreeS.framed _) S P T v1 w (hPb w hb) hS' hPS
      (fun w2 hb2 => tget_e T ⟨c.row, c.col, c.at_, c.value, false⟩ ha S w2 (hTb w2 (below_next hb hb2)) (hS'.wide hb2.size))
      (fun w2 hb2 => tput_1 T _ o1 S w2 (hTb w2 (below_next hb hb2)) (hS'.wide hb2.size))
      (fun w2 hb2 => .inl (hTb w2 (below_next hb hb2)))
  · have e1 : kindF c.kind = 174 := by rw [hk]; rfl
    have e2 : TreeK c = TreeE := by unfold TreeK; rw [hk]; rfl
    rw [e1, e2]
    exact (stget_of c P T v1 w (hPb w hb) (fun w2 hb2 => tget_e T ⟨c.row, c.col, c.at_, c.value, false⟩ ha S w2 (hTb w2 (below_next hb hb2)) (hS'.wide hb2.size))).mono fun e W' h => ⟨h.1, TreeE.framed.mono (hTb W' (below_next hb h.2)) (fun k hk _ => .inl hk), Turned.of_below h.2⟩
  · have e1 : kindF c.kind = 175 := by rw [hk]; rfl
    have e2 : TreeK c = TreeE := by unfold TreeK; rw [hk]; rfl
    rw [e1, e2]
    exact (stscan_of c P T v1 w (hPb w hb) (fun w2 hb2 => tscan_e T S c.row c.to c.at_ w2 (hTb w2 (below_next hb hb2)))).mono fun e W' h => ⟨h.1, TreeE.framed.mono (hTb W' (below_next hb h.2)) (fun k hk _ => .inl hk), Turned.of_below h.2⟩
theorem tget_s (T : Nat) (c2 c : Cl) (hok : ClOk c2) (hk : SameKey c2 c) (S : Nat → Prop) (W : World) (h : TreeS c2 W S T) (hS : Lt S W) : Calls Tryz.prog 210 #[.pointer (some ⟨T, 0, none⟩), .string c.row, .string c.col, .int .i64 c.at_] W fun e W' => ∃ v b, e = .returned (.tuple #[.string v, .bool b]) ∧ Below W.heap.size W W' := by
  rcases h with h | h
  · exact tget_e T c (by rw [← hk.2.2]; exact hok.a1) S W h hS
  · exact tget_one T c2 c hok hk S W h hS
theorem stdone_2 (c : Cm) (hr : rightC c = true) (S : Nat → Prop) (P T : Nat) (v1 : Value) (W : World) (hP : W.heap[P]? = some (.cells #[.pointer (some ⟨T, 0, none⟩), v1] 213)) (h : TreeK c W S T) (hS : Lt S W) (hPS : ¬ S P) :
    Calls Tryz.prog 131 #[.pointer (some ⟨P, 0, none⟩), cmv c] W fun e W' => (∃ r : Rp, e = .returned (rpv r) ∧ r.e = 0) ∧ TreeU W' (fun k => S k ∨ (W.heap.size ≤ k ∧ k < W'.heap.size)) T ∧ Turned S W W' := by
  obtain ⟨k1, k5, ha⟩ := kind_of hr
  have hPl := (Array.getElem?_eq_some_iff.1 hP).1
  have hPb : ∀ w, Below W.heap.size W w → w.heap[P]? = some (.cells #[.pointer (some ⟨T, 0, none⟩), v1] 213) := fun w hb => (hb.block P hPl).trans hP
  refine stdone_of c k1 k5 TreeU TreeU.framed S P T W hS fun w hb => ?_
  have hS' : Lt S w := hS.wide hb.size
  have hk : c.kind = 1 ∨ c.kind = 2 ∨ c.kind = 3 ∨ c.kind = 4 ∨ c.kind = 5 := by omega
  rcases hk with hk | hk | hk | hk | hk
  · obtain ⟨o1, o2⟩ := clok_of hr (by omega)
    have e1 : kindF c.kind = 171 := by rw [hk]; rfl
    have e2 : TreeK c = TreeS ⟨c.row, c.col, c.at_, c.value, false⟩ := by unfold TreeK; rw [hk]; rfl
    rw [e2] at h
    have hTb : ∀ w, Below W.heap.size W w → TreeS ⟨c.row, c.col, c.at_, c.value, false⟩ w S T := fun w hb => (TreeS.framed _).frame h fun k hk => hb.block k (hS k hk)
    rw [e1]
    exact stput_of c _ TreeU.framed S P T v1 w (hPb w hb) hS' hPS fun w2 hb2 => tput_2 T _ o1 S w2 (hTb w2 (below_next hb hb2)) (hS'.wide hb2.size)
  · obtain ⟨o1, o2⟩ := clok_of hr (by omega)
    have e1 : kindF c.kind = 172 := by rw [hk]; rfl
    have e2 : TreeK c = TreeS ⟨c.row, c.col, c.at_, { data := #[] }, true⟩ := by unfold TreeK; rw [hk]; rfl
    rw [e2] at h
    have hTb : ∀ w, Below W.heap.size W w → TreeS ⟨c.row, c.col, c.at_, { data := #[] }, true⟩ w S T := fun w hb => (TreeS.framed _).frame h fun k hk => hb.block k (hS k hk)
    rw [e1]
    exact stgone_of c _ TreeU.framed S P T v1 w (hPb w hb) hS' hPS fun w2 hb2 => tput_2 T _ o2 S w2 (hTb w2 (below_next hb hb2)) (hS'.wide hb2.size)
  · obtain ⟨o1, o2⟩ := clok_of hr (by omega)
    have e1 : kindF c.kind = 173 := by rw [hk]; rfl
    have e2 : TreeK c = TreeS ⟨c.row, c.col, c.at_, c.value, false⟩ := by unfold TreeK; rw [hk]; rfl
    rw [e2] at h
    have hTb : ∀ w, Below W.heap.size W w → TreeS ⟨c.row, c.col, c.at_, c.value, false⟩ w S T := fun w hb => (TreeS.framed _).frame h fun k hk => hb.block k (hS k hk)
    rw [e1]
    exact stcheck_of c _ TreeU.framed S P T v1 w (hPb w hb) hS' hPS
      (fun w2 hb2 => tget_s T _ ⟨c.row, c.col, c.at_, c.value, false⟩ o1 ⟨rfl, rfl, rfl⟩ S w2 (hTb w2 (below_next hb hb2)) (hS'.wide hb2.size))
      (fun w2 hb2 => tput_2 T _ o1 S w2 (hTb w2 (below_next hb hb2)) (hS'.wide hb2.size))
      (fun w2 hb2 => trivial)
  · have e1 : kindF c.kind = 174 := by rw [hk]; rfl
    have e2 : TreeK c = TreeE := by unfold TreeK; rw [hk]; rfl
    rw [e2] at h
    have hTb : ∀ w, Below W.heap.size W w → TreeE w S T := fun w hb => TreeE.framed.frame h fun k hk => hb.block k (hS k hk)
    rw [e1]
    exact (stget_of c P T v1 w (hPb w hb) (fun w2 hb2 => tget_e T ⟨c.row, c.col, c.at_, c.value, false⟩ ha S w2 (hTb w2 (below_next hb hb2)) (hS'.wide hb2.size))).mono fun e W' h => ⟨h.1, trivial, Turned.of_below h.2⟩
  · have e1 : kindF c.kind = 175 := by rw [hk]; rfl
    have e2 : TreeK c = TreeE := by unfold TreeK; rw [hk]; rfl
    rw [e2] at h
    have hTb : ∀ w, Below W.heap.size W w → TreeE w S T := fun w hb => TreeE.framed.frame h fun k hk => hb.block k (hS k hk)
    rw [e1]
    exact (stscan_of c P T v1 w (hPb w hb) (fun w2 hb2 => tscan_e T S c.row c.to c.at_ w2 (hTb w2 (below_next hb hb2)))).mono fun e W' h => ⟨h.1, trivial, Turned.of_below h.2⟩
open MapKept in
theorem MapIs.store_one {P : Program} {w : World} {t k e : TypeId} {d : TypeDesc} {b : Nat} {l : List (Value × Value)} {key : Value} (ht : P.underlying t = some (.map k e)) (hk : P.underlying k = some d) (hkey : IsKey d key) (h : MapIs w d b l) (v : Value) :
    ∃ w' l', (Instr.mapUpdate t (.map (some b)) key v).run P w = .ok () w' ∧ MapIs w' d b l' ∧ (l = [] → l' = [(key, v)]) ∧ w.grownBy w' (some b) ∧ w'.heap.size = w.heap.size := by
  by_cases hl : l = []
  · subst hl
    obtain ⟨w', h1, h2, h3, h4⟩ := h.store_new ht hk hkey (fun p hp => by cases hp) v
    exact ⟨w', _, h1, h2, fun _ => rfl, h3, h4⟩
  · obtain ⟨w', l', h1, h2, _, h3, h4⟩ := h.store_any ht hk hkey v
    exact ⟨w', l', h1, h2, fun e => absurd e hl, h3, h4⟩
theorem stapply_of (c : Cm) (hr : rightC c = true) (R' : World → (Nat → Prop) → Nat → Prop) (hR' : Framed R') (S : Nat → Prop) (P T M : Nat) (cl : List (Value × Value)) (q0 : Int) (r0 : Rp) (hq : q0 < c.seq) (W : World)
    (hP : W.heap[P]? = some (.cells #[.pointer (some ⟨T, 0, none⟩), .map (some M)] 213)) (hM : MapIs W (.int .i64) M cl)
    (hL : ∀ w, MapIs w (.int .i64) M cl → (Instr.lookup 211 (.map (some M)) (.int .i64 c.client) false).run Tryz.prog w = .ok (lastv q0 r0) w)
    (hS : Lt S W) (hPS : ¬ S P) (hMS : ¬ S M)
    (HD : ∀ w, Below W.heap.size W w → Calls Tryz.prog 131 #[.pointer (some ⟨P, 0, none⟩), cmv c] w fun e W' => (∃ r : Rp, e = .returned (rpv r) ∧ r.e = 0) ∧ R' W' (fun k => S k ∨ (w.heap.size ≤ k ∧ k < W'.heap.size)) T ∧ Turned S w W') :
    Calls Tryz.prog 95 #[.pointer (some ⟨P, 0, none⟩), cmv c] W fun e W' => ∃ r : Rp, e = .returned (rpv r) ∧ r.e = 0 ∧ R' W' (fun k => S k ∨ (W.heap.size ≤ k ∧ k < W'.heap.size)) T ∧ W'.heap[P]? = W.heap[P]? ∧ (∃ cl', MapIs W' (.int .i64) M cl' ∧ (cl = [] → cl' = [(.int .i64 c.client, lastv c.seq r)])) ∧ Turned (fun k => S k ∨ k = M) W W' := by
  have HDx := Lib.hid HD
  have HRt := Lib.hid (fun w => cmdright_any c w)
  rw [hr] at HRt
  have hPl := (Array.getElem?_eq_some_iff.1 hP).1
  have hMl := hM.lt
  have hPM : P ≠ M := by
    intro e
    obtain ⟨es, clock, hb, _⟩ := hM
    rw [← e, hP] at hb; injection hb with hb; cases hb
  obtain ⟨Y, hY⟩ : ∃ Y, W.heap[P]? = some Y := ⟨_, hP⟩
  have k1 : ∀ w : World, w.heap[P]? = some Y → w.cell? ⟨P, 1, none⟩ = some (.map (some M)) := fun w hw => cob (hw.trans (hY.symm.trans hP)) 1 rfl
  have HM := Lib.hid hM
  have HL := Lib.hid hL
  clear HD hM hL hP
  obtain ⟨ci, sq, kind, row, col, tt, at_, value, expect, has⟩ := c
  obtain ⟨r0e, r0d, r0v⟩ := r0
  unfold cmv cmcells at HDx HRt
  unfold lastv rpcells at HL
  unfold cmv cmcells
  simp only [] at HDx HRt HL hq ⊢
  have hd1 : decide (sq < q0) = false := by simp; omega
  have hd2 : decide (sq = q0) = false := by simp; omega
  have hd3 : (sq == q0) = false := by simp; omega
  go_enter Tryz.func95, Tryz.ntmps95
  go_upto_region 1 with (fail)
  generalize hw1 : World.alloc (World.alloc W _) _ = w1
  obtain ⟨hA, hB, hb1, hz1⟩ := two_new _ _ _ hw1.symm
  have hzz : W.heap.size + 2 ≤ w1.heap.size := Nat.le_of_eq hz1.symm
  clear hw1 hz1
  obtain ⟨Z, hZ⟩ : ∃ Z, w1.heap[W.heap.size]? = some Z := ⟨_, hA⟩
  have z0 : ∀ w : World, w.heap[W.heap.size]? = some Z → w.cell? ⟨W.heap.size, 0, none⟩ = some (.int .i64 ci) := fun w hw => cob (hw.trans (hZ.symm.trans hA)) 0 rfl
  have z1 : ∀ w : World, w.heap[W.heap.size]? = some Z → w.cell? ⟨W.heap.size, 1, none⟩ = some (.int .i64 sq) := fun w hw => cob (hw.trans (hZ.symm.trans hA)) 1 rfl
  have z2 : ∀ w : World, w.heap[W.heap.size]? = some Z → w.cell? ⟨W.heap.size, 2, none⟩ = some (.int .i64 kind) := fun w hw => cob (hw.trans (hZ.symm.trans hA)) 2 rfl
  have z3 : ∀ w : World, w.heap[W.heap.size]? = some Z → w.cell? ⟨W.heap.size, 3, none⟩ = some (.string row) := fun w hw => cob (hw.trans (hZ.symm.trans hA)) 3 rfl
  have z4 : ∀ w : World, w.heap[W.heap.size]? = some Z → w.cell? ⟨W.heap.size, 4, none⟩ = some (.string col) := fun w hw => cob (hw.trans (hZ.symm.trans hA)) 4 rfl
  have z5 : ∀ w : World, w.heap[W.heap.size]? = some Z → w.cell? ⟨W.heap.size, 5, none⟩ = some (.string tt) := fun w hw => cob (hw.trans (hZ.symm.trans hA)) 5 rfl
  have z6 : ∀ w : World, w.heap[W.heap.size]? = some Z → w.cell? ⟨W.heap.size, 6, none⟩ = some (.int .i64 at_) := fun w hw => cob (hw.trans (hZ.symm.trans hA)) 6 rfl
  have z7 : ∀ w : World, w.heap[W.heap.size]? = some Z → w.cell? ⟨W.heap.size, 7, none⟩ = some (.string value) := fun w hw => cob (hw.trans (hZ.symm.trans hA)) 7 rfl
  have z8 : ∀ w : World, w.heap[W.heap.size]? = some Z → w.cell? ⟨W.heap.size, 8, none⟩ = some (.string expect) := fun w hw => cob (hw.trans (hZ.symm.trans hA)) 8 rfl
  have z9 : ∀ w : World, w.heap[W.heap.size]? = some Z → w.cell? ⟨W.heap.size, 9, none⟩ = some (.bool has) := fun w hw => cob (hw.trans (hZ.symm.trans hA)) 9 rfl
  have hY1 : w1.heap[P]? = some Y := (hb1.block P hPl).trans hY
  have hY1d : w1.drew.heap[P]? = some Y := hY1
  have hZ1d : w1.drew.heap[W.heap.size]? = some Z := hZ
  have hM1 : MapIs w1 (.int .i64) M cl := HM.out.of_block (hb1.block M hMl)
  have hl1 := HL.out w1 hM1
  have hl1d := HL.out w1.drew (hM1.of_block rfl)
  have hYa : ∀ o, (w1.alloc o).drew.heap[P]? = some Y := fun o => (heap_alloc_old w1 o (by omega)).trans hY1
  have hZa : ∀ o, (w1.alloc o).drew.heap[W.heap.size]? = some Z := fun o => (heap_alloc_old w1 o (by omega)).trans hZ
  have hla := fun o => HL.out (w1.alloc o).drew (hM1.of_block (heap_alloc_old w1 o (by omega)))
  have HB := Lib.hid hB
  clear hA hB hM1
  go_region_held3 (fun w' => w'.heap[P]? = some Y ∧ w'.heap[W.heap.size]? = some Z)
    (first | with_reducible exact And.intro hY1 hZ | with_reducible exact And.intro hY1d hZ1d | with_reducible exact And.intro (hYa _) (hZa _))
    (fail)
  all_goals
    generalize hw2 : World.alloc w1 _ = w2
    have hX2 := named_new hw2.symm
    have hb2 := named_below hw2.symm
    have hz2 := named_size hw2.symm
    clear hw2
    have hB2 := below_next hb1 hb2
    have hY2 : w2.drew.heap[P]? = some Y := (hb2.block P (by omega)).trans hY1
    have hZ2 : w2.drew.heap[W.heap.size]? = some Z := (hb2.block W.heap.size (by omega)).trans hZ
    have hR2 := (hb2.block (W.heap.size + 1) (by omega)).trans HB.out
    have HRx := Lib.hid (HRt.out w2.drew)
    have x0 := z0 w2.drew hZ2
    have x1 := z1 w2.drew hZ2
    have x2 := z2 w2.drew hZ2
    have x3 := z3 w2.drew hZ2
    have x4 := z4 w2.drew hZ2
    have x5 := z5 w2.drew hZ2
    have x6 := z6 w2.drew hZ2
    have x7 := z7 w2.drew hZ2
    have x8 := z8 w2.drew hZ2
    have x9 := z9 w2.drew hZ2
    clear hYa hZa hla hl1 hl1d hY1 hY1d hZ1d
    go_wp2_with fail
    refine HRx.out.mono ?_
    rintro e w3 ⟨rfl, hb3'⟩
    have hb3 : Below w2.heap.size w2 w3 := below_undrew hb3'
    have hB3 := below_next hB2 hb3
    have hz3 := hb3.size
    have hY3 := (hb3.block P (by omega)).trans hY2
    have hZ3 := (hb3.block W.heap.size (by omega)).trans hZ2
    have hR3 := (hb3.block (W.heap.size + 1) (by omega)).trans hR2
    have hX3 := (hb3.block w1.heap.size (by omega)).trans hX2
    have y0 : w3.cell? ⟨w1.heap.size, 0, none⟩ = some (.int .i64 q0) := cob hX3 0 rfl
    have HX3 := Lib.hid hX3
    have HR3 := Lib.hid hR3
    have HDo := Lib.hid (HDx.out w3 hB3)
    clear x0 x1 x2 x3 x4 x5 x6 x7 x8 x9 hX2 hX3 hR2 hR3 hb3' hb3 hY2 hZ2
    have x0 := z0 w3 hZ3
    have x1 := z1 w3 hZ3
    have x2 := z2 w3 hZ3
    have x3 := z3 w3 hZ3
    have x4 := z4 w3 hZ3
    have x5 := z5 w3 hZ3
    have x6 := z6 w3 hZ3
    have x7 := z7 w3 hZ3
    have x8 := z8 w3 hZ3
    have x9 := z9 w3 hZ3
    go_wp2_with fail
    refine HDo.out.mono ?_
    rintro e w4 ⟨⟨⟨re, rd, rv⟩, rfl, re0⟩, hT4, hTu4⟩
    have re1 : re = 0 := re0
    subst re1
    clear re0 x0 x1 x2 x3 x4 x5 x6 x7 x8 x9 y0
    unfold rpv rpcells
    simp only []
    have hz4 := hTu4.size
    have nS : ∀ k, W.heap.size ≤ k → ¬ S k := fun k hk h => by have := hS k h; omega
    have hY4 := (hTu4.block P (by omega) hPS).trans hY3
    have hZ4 := (hTu4.block W.heap.size (by omega) (nS _ (Nat.le_refl _))).trans hZ3
    have hR4 := (hTu4.block (W.heap.size + 1) (by omega) (nS _ (by omega))).trans HR3.out
    have hM4 : MapIs w4 (.int .i64) M cl := HM.out.of_block ((hTu4.block M (by omega) hMS).trans (hB3.block M hMl))
    clear hY3 hZ3
    go_upto_region 7 with (fail)
    generalize hw5 : World.alloc w4 _ = w5
    have hX5 := named_new hw5.symm
    have hb5 := named_below hw5.symm
    have hz5 := named_size hw5.symm
    clear hw5
    have hY5 := (hb5.block P (by omega)).trans hY4
    have hZ5 := (hb5.block W.heap.size (by omega)).trans hZ4
    have hR5 := (hb5.block (W.heap.size + 1) (by omega)).trans hR4
    have hM5 : MapIs w5 (.int .i64) M cl := hM4.of_block (hb5.block M (by omega))
    obtain ⟨V, hV5⟩ : ∃ V, w5.heap[w4.heap.size]? = some V := ⟨_, hX5⟩
    have v0 : ∀ w : World, w.heap[w4.heap.size]? = some V → w.cell? ⟨w4.heap.size, 0, none⟩ = some (.int .i64 0) := fun w hw => cob (hw.trans (hV5.symm.trans hX5)) 0 rfl
    have v1 : ∀ w : World, w.heap[w4.heap.size]? = some V → w.cell? ⟨w4.heap.size, 1, none⟩ = some (.bool rd) := fun w hw => cob (hw.trans (hV5.symm.trans hX5)) 1 rfl
    have v2 : ∀ w : World, w.heap[w4.heap.size]? = some V → w.cell? ⟨w4.heap.size, 2, none⟩ = some (.string rv) := fun w hw => cob (hw.trans (hV5.symm.trans hX5)) 2 rfl
    have v3 : ∀ w : World, w.heap[w4.heap.size]? = some V → w.cell? ⟨w4.heap.size, 3, none⟩ = some (.slice none 0 0) := fun w hw => cob (hw.trans (hV5.symm.trans hX5)) 3 rfl
    have HCo := Lib.hid (fun w => copied_any ⟨0, rd, rv⟩ w)
    unfold rpv rpcells at HCo
    simp only [] at HCo
    have HM5 := Lib.hid hM5
    have HT4 := Lib.hid hT4
    have HR5 := Lib.hid hR5
    have Hb5 := Lib.hid hb5
    have hY5d : w5.drew.heap[P]? = some Y := hY5
    have hZ5d : w5.drew.heap[W.heap.size]? = some Z := hZ5
    have hV5d : w5.drew.heap[w4.heap.size]? = some V := hV5
    have hW4 : w3.heap.size ≤ w4.heap.size := hz4
    clear hX5 hR5 hM5 hM4 hR4 hT4 hb5 hz4
    go_region_held3 (fun w' => w'.heap[P]? = some Y ∧ w'.heap[W.heap.size]? = some Z ∧ w'.heap[w4.heap.size]? = some V)
      (first | with_reducible exact And.intro hY5 (And.intro hZ5 hV5) | with_reducible exact And.intro hY5d (And.intro hZ5d hV5d) | with_reducible exact And.intro hY6 (And.intro hZ6 hV6) | with_reducible exact And.intro hY7 (And.intro hZ7 hV7))
      (first | (go_at_call 130; (with_reducible refine (HCo.out _).mono ?_); rintro e w6 ⟨rfl, hb6'⟩; have hb6 : Below w5.heap.size w5 w6 := below_undrew hb6'; have hz6 := hb6.size; have hY6 := (hb6.block P (by omega)).trans hY5; have hZ6 := (hb6.block W.heap.size (by omega)).trans hZ5; have hV6 := (hb6.block w4.heap.size (by omega)).trans hV5; obtain ⟨w7, l7, hst7, hM7, hl7, hg7, hz7⟩ := (HM5.out.of_block (hb6.block M (by omega))).store_one (P := Tryz.prog) (key := .int .i64 ci) Tryz.underlying211 Tryz.underlying3 rfl (.agg #[.int .i64 sq, .int .i64 0, .bool rd, .string rv, .slice none 0 0]); have hY7 := (hg7.block P (by omega) (fun e => hPM (by injection e))).trans hY6; have hZ7 := (hg7.block W.heap.size (by omega) (fun e => by injection e with e; omega)).trans hZ6; have hV7 := (hg7.block w4.heap.size (by omega) (fun e => by injection e with e; omega)).trans hV6))
    have hR7 := (hg7.block (W.heap.size + 1) (by omega) (fun e => by injection e with e; omega)).trans ((hb6.block (W.heap.size + 1) (by omega)).trans HR5.out)
    have t0 : w7.cell? ⟨W.heap.size + 1, 0, none⟩ = _ := cob hR7 0 rfl
    have t1 : w7.cell? ⟨W.heap.size + 1, 1, none⟩ = _ := cob hR7 1 rfl
    have t2 : w7.cell? ⟨W.heap.size + 1, 2, none⟩ = _ := cob hR7 2 rfl
    have t3 : w7.cell? ⟨W.heap.size + 1, 3, none⟩ = _ := cob hR7 3 rfl
    have hfr7 : ∀ j, w7.frozen? ⟨W.heap.size + 1, j, none⟩ = false := fun j => by simp [World.frozen?, hR7]
    have u0 := v0 w7 hV7
    have u1 := v1 w7 hV7
    have u2 := v2 w7 hV7
    have u3 := v3 w7 hV7
    have HR7 := Lib.hid hR7
    have hlt5 : w4.heap.size ≤ w5.heap.size := by omega
    have hk7 : ∀ k, k < w4.heap.size → k ≠ M → k ≠ W.heap.size + 1 → ((((w7.setCell ⟨W.heap.size + 1, 0, none⟩ (.int .i64 0)).setCell ⟨W.heap.size + 1, 1, none⟩ (.bool rd)).setCell ⟨W.heap.size + 1, 2, none⟩ (.string rv)).setCell ⟨W.heap.size + 1, 3, none⟩ (.slice none 0 0)).heap[k]? = w4.heap[k]? := fun k hk hkM hkR =>
      (set4_other w7 (W.heap.size + 1) _ _ _ _ k hkR).trans ((hg7.block k (by omega) (fun e => hkM (by injection e))).trans ((hb6.block k (by omega)).trans (Hb5.out.block k hk)))
    have HM7 := Lib.hid hM7
    have Hg7 := Lib.hid hg7
    have HHY := Lib.hid hY7
    clear hR7 hM7 hg7 hst7 hY7 hZ7
    go_wp2
    refine bodyPost_ret (results_c rfl _ _ (W.heap.size + 1) _ _ (0, 0) _ rfl (set4_same HR7.out _ _ _ _) Tryz.underlying43 rfl Tryz.sizeRp) rfl ⟨⟨0, rd, rv⟩, rfl, rfl, ?_, ?_, ⟨l7, ?_, hl7⟩, ?_⟩
    · refine hR'.mono (hR'.frame HT4.out (fun k hk => ?_)) (fun k hk hl => ?_)
      · rcases hk with hk | hk
        · have := hS k hk
          exact hk7 k (by omega) (fun e => hMS (e ▸ hk)) (by omega)
        · exact hk7 k hk.2 (by omega) (by omega)
      · rcases hk with hk | hk
        · exact .inl hk
        · exact .inr ⟨by omega, hl⟩
    · exact (set4_other w7 (W.heap.size + 1) _ _ _ _ P (by omega)).trans (HHY.out.trans hY.symm)
    · exact HM7.out.of_block (set4_other w7 (W.heap.size + 1) _ _ _ _ M (by omega))
    · have t4 : Turned (fun k => S k ∨ k = M) W w4 := (Turned.of_below hB3).trans (hTu4.wide fun k hk _ => .inl hk)
      have t6 := (t4.below Hb5.out (by omega)).below hb6 (by omega)
      exact (t6.grown Hg7.out (fun k hk => .inl (.inr (by injection hk with hk; exact hk.symm)))).set4 (by omega) _ _ _ _
def Away (S : Nat → Prop) (P M : Nat) : Nat → Prop := fun k => S k ∧ k ≠ P ∧ k ≠ M
theorem OwnT.blk0 {α : Type} {mk : α → List Value} {e : TypeId} {sz : Nat} {w : World} {base g c : Nat} {l : List α} (h : OwnT mk e sz w base (some ⟨g, 0, none⟩) c l) : ∃ cur, w.heap[g]? = some (.cells cur e (0, 0)) := by
  rcases h.2 with ⟨h0, _⟩ | ⟨g', cp, cur, e1, _, hh, _⟩
  · cases h0
  · injection e1 with e1
    injection e1 with e1
    have h1 : g = g' := by injection e1
    subst h1
    exact ⟨cur, hh⟩
theorem Own.blk0 {α : Type} {mk : α → Value} {e : TypeId} {w : World} {base c : Nat} {A : Option Addr} {l : List α} (h : Own mk e w base A c l) (k : Nat) (hk : blk A = some k) : ∃ cur, w.heap[k]? = some (.cells cur e (0, 0)) := by
  rcases h.2 with ⟨h0, _⟩ | ⟨g', cp, cur, e1, _, hh, _⟩
  · injection h0 with h0
    subst h0
    cases hk
  · injection e1 with e1
    subst e1
    have : g' = k := by simpa [blk] using hk
    subst this
    exact ⟨cur, hh⟩
theorem away_of {S : Nat → Prop} {P M : Nat} {W : World} {cp : Array Value} {l : List (Value × Value)} {d : TypeDesc} (hP : W.heap[P]? = some (.cells cp 213)) (hM : MapIs W d M l) {k : Nat} {cs : Array Value} {t : TypeId} {fr : Nat × Nat} (hk : W.heap[k]? = some (.cells cs t fr)) (ht : t ≠ 213) (s : S k) : Away S P M k := by
  refine ⟨s, ?_, ?_⟩
  · rintro rfl
    rw [hk] at hP; injection hP with hP; injection hP with _ h2; exact ht h2
  · rintro rfl
    obtain ⟨es, clock, hb, _⟩ := hM
    rw [hk] at hb; injection hb with hb; cases hb
theorem TreeE.away {S : Nat → Prop} {P M T : Nat} {W : World} {cp : Array Value} {l : List (Value × Value)} {d : TypeDesc} (hP : W.heap[P]? = some (.cells cp 213)) (hM : MapIs W d M l) (h : TreeE W S T) : TreeE W (Away S P M) T := by
  obtain ⟨X, hT, hX, sT, sX⟩ := h
  exact ⟨X, hT, hX, away_of hP hM hT (by decide) sT, away_of hP hM hX (by decide) sX⟩
theorem TreeS.away {c : Cl} {S : Nat → Prop} {P M T : Nat} {W : World} {cp : Array Value} {l : List (Value × Value)} {d : TypeDesc} (hP : W.heap[P]? = some (.cells cp 213)) (hM : MapIs W d M l) (h : TreeS c W S T) : TreeS c W (Away S P M) T := by
  rcases h with h | h | h
  · exact .inl (h.away hP hM)
  · obtain ⟨X, g, cap, hT, hX, hg, hl, sT, sX, sg⟩ := h
    obtain ⟨cg, hcg⟩ := OwnT.blk0 hg
    exact .inr (.inl ⟨X, g, cap, hT, hX, hg, hl, away_of hP hM hT (by decide) sT, away_of hP hM hX (by decide) sX, away_of hP hM hcg (by decide) sg⟩)
  · obtain ⟨X, Lv, lc, Lt, tc, Y, hT, hX, hv, ht, hY, hl, sT, sX, sv, st⟩ := h
    obtain ⟨gl, capl, G, Cap, g, cap, AF, F, cF, hY0, hgl, hG, hg, hF, hO, s0, s1, s2, s3, s4⟩ := hY
    obtain ⟨c1, h1⟩ := OwnT.blk0 hv
    obtain ⟨c2, h2⟩ := OwnT.blk0 ht
    obtain ⟨c3, h3⟩ := OwnT.blk0 hgl
    obtain ⟨c4, h4⟩ := OwnT.blk0 hG
    obtain ⟨c5, h5⟩ := OwnT.blk0 hg
    refine .inr (.inr ⟨X, Lv, lc, Lt, tc, Y, hT, hX, hv, ht, ⟨gl, capl, G, Cap, g, cap, AF, F, cF, hY0, hgl, hG, hg, hF, hO, away_of hP hM hY0 (by decide) s0, away_of hP hM h3 (by decide) s1, away_of hP hM h4 (by decide) s2, away_of hP hM h5 (by decide) s3, fun k hk => ?_⟩, hl, away_of hP hM hT (by decide) sT, away_of hP hM hX (by decide) sX, away_of hP hM h1 (by decide) sv, away_of hP hM h2 (by decide) st⟩)
    obtain ⟨c6, h6⟩ := hO.blk0 k hk
    exact away_of hP hM h6 (by decide) (s4 k hk)
theorem TreeK.away {c : Cm} {S : Nat → Prop} {P M T : Nat} {W : World} {cp : Array Value} {l : List (Value × Value)} {d : TypeDesc} (hP : W.heap[P]? = some (.cells cp 213)) (hM : MapIs W d M l) (h : TreeK c W S T) : TreeK c W (Away S P M) T := by
  unfold TreeK at h ⊢
  split
  · rename_i hk
    rw [if_pos hk] at h
    exact h.away hP hM
  · rename_i hk
    rw [if_neg hk] at h
    split
    · rename_i hk2
      rw [if_pos hk2] at h
      exact h.away hP hM
    · rename_i hk2
      rw [if_neg hk2] at h
      exact h.away hP hM
theorem seq_of {c : Cm} (h : rightC c = true) : 0 < c.seq := by
  simp only [rightC, Bool.and_eq_true] at h
  have := (sound_sizes h.1).s1
  omega
theorem state_step {R : World → (Nat → Prop) → Nat → Prop} (hR : Framed R) {S : Nat → Prop} {P T M : Nat} {W W' : World} {cl : List (Value × Value)} (hS : Lt S W) (hP : W'.heap[P]? = some (.cells #[.pointer (some ⟨T, 0, none⟩), .map (some M)] 213)) (sP : S P) (sM : S M) (hT : R W' (fun k => Away S P M k ∨ (W.heap.size ≤ k ∧ k < W'.heap.size)) T) (hM : MapIs W' (.int .i64) M cl) (ht : Turned (fun k => Away S P M k ∨ k = M) W W') :
    ∃ S', StAt R W' S' P cl ∧ Step S W W' S' := by
  refine ⟨fun k => S k ∨ (W.heap.size ≤ k ∧ k < W'.heap.size), ⟨T, M, hP, .inl sP, .inl sM, hR.mono hT (fun k hk _ => ?_), hM⟩, ht.wide (fun k hk _ => ?_), fun k hk => ?_, fun k hk => ?_⟩
  · rcases hk with hk | hk
    · exact .inl hk.1
    · exact .inr hk
  · rcases hk with hk | rfl
    · exact hk.1
    · exact sM
  · rcases hk with hk | hk
    · exact .inl hk
    · exact .inr hk.1
  · rcases hk with hk | hk
    · exact Nat.lt_of_lt_of_le (hS k hk) ht.size
    · exact hk.2
theorem stapply_1 (c : Cm) (hr : rightC c = true) (S : Nat → Prop) (P : Nat) (W : World) (h : StAt TreeE W S P []) (hS : Lt S W) :
    Calls Tryz.prog 95 #[.pointer (some ⟨P, 0, none⟩), cmv c] W fun e W' => ∃ (r : Rp) (S' : Nat → Prop), e = .returned (rpv r) ∧ r.e = 0 ∧ StAt (TreeK c) W' S' P [(.int .i64 c.client, lastv c.seq r)] ∧ Step S W W' S' := by
  obtain ⟨T, M, hP, sP, sM, hT, hM⟩ := h
  have hL : ∀ w, MapIs w (.int .i64) M [] → (Instr.lookup 211 (.map (some M)) (.int .i64 c.client) false).run Tryz.prog w = .ok (lastv 0 ⟨0, false, ByteArray.empty⟩) w := fun w hw => by
    have hl := hw.look_none (P := Tryz.prog) (key := .int .i64 c.client) Tryz.underlying211 Tryz.underlying3 rfl false (fun q hq => by cases hq) (zlast w)
    simp only [Bool.false_eq_true, if_false] at hl
    exact hl
  have hSA : Lt (Away S P M) W := fun k hk => hS k hk.1
  have hTA := hT.away hP hM
  have hPl := (Array.getElem?_eq_some_iff.1 hP).1
  refine (stapply_of c hr (TreeK c) (TreeK.framed c) (Away S P M) P T M [] 0 ⟨0, false, ByteArray.empty⟩ (seq_of hr) W hP hM hL hSA (fun h => h.2.1 rfl) (fun h => h.2.2 rfl) fun w hb => stdone_1 c hr (Away S P M) P T _ w ((hb.block P hPl).trans hP) (TreeE.framed.frame hTA fun k hk => hb.block k (hSA k hk)) (hSA.wide hb.size) (fun h => h.2.1 rfl)).mono ?_
  rintro e W' ⟨r, rfl, hr0, hK, hP', ⟨cl', hM', hcl⟩, ht⟩
  obtain ⟨S', h1, h2⟩ := state_step (TreeK.framed c) hS (hP'.trans hP) sP sM hK hM' ht
  rw [hcl rfl] at h1
  exact ⟨r, S', rfl, hr0, h1, h2⟩
theorem stapply_2 (c : Cm) (hr : rightC c = true) (q : Int) (r0 : Rp) (hq : q < c.seq) (S : Nat → Prop) (P : Nat) (W : World) (h : StAt (TreeK c) W S P [(.int .i64 c.client, lastv q r0)]) (hS : Lt S W) :
    Calls Tryz.prog 95 #[.pointer (some ⟨P, 0, none⟩), cmv c] W fun e W' => ∃ (r : Rp) (cl' : List (Value × Value)) (S' : Nat → Prop), e = .returned (rpv r) ∧ r.e = 0 ∧ StAt TreeU W' S' P cl' ∧ Step S W W' S' := by
  obtain ⟨T, M, hP, sP, sM, hT, hM⟩ := h
  have hL : ∀ w, MapIs w (.int .i64) M [(.int .i64 c.client, lastv q r0)] → (Instr.lookup 211 (.map (some M)) (.int .i64 c.client) false).run Tryz.prog w = .ok (lastv q r0) w := fun w hw => by
    have hl := hw.look (P := Tryz.prog) (key := .int .i64 c.client) Tryz.underlying211 Tryz.underlying3 rfl false (v := lastv q r0) (by simp)
    simp only [Bool.false_eq_true, if_false] at hl
    exact hl
  have hSA : Lt (Away S P M) W := fun k hk => hS k hk.1
  have hTA := TreeK.away hP hM hT
  have hPl := (Array.getElem?_eq_some_iff.1 hP).1
  refine (stapply_of c hr TreeU TreeU.framed (Away S P M) P T M _ q r0 hq W hP hM hL hSA (fun h => h.2.1 rfl) (fun h => h.2.2 rfl) fun w hb => stdone_2 c hr (Away S P M) P T _ w ((hb.block P hPl).trans hP) ((TreeK.framed c).frame hTA fun k hk => hb.block k (hSA k hk)) (hSA.wide hb.size) (fun h => h.2.1 rfl)).mono ?_
  rintro e W' ⟨r, rfl, hr0, hK, hP', ⟨cl', hM', _⟩, ht⟩
  obtain ⟨S', h1, h2⟩ := state_step TreeU.framed hS (hP'.trans hP) sP sM hK hM' ht
  exact ⟨r, cl', S', rfl, hr0, h1, h2⟩
end Go.Proofs.YtoigogjmhkpdlaaGreat
