/- A part of the proof of WholeFew: the texts NewA. -/
import Derived.Test.YtoigogjmhkpdlaaGreatJ39
import Derived.Deep.DeepCutAuto
set_option maxHeartbeats 6400000
set_option maxRecDepth 100000
namespace Go.Proofs.YtoigogjmhkpdlaaGreat
open Go.RowKit
theorem DiskAt.fresh (m : Nat) (hm : m ≤ 65536) (W : World) : DiskAt ((W.alloc (.map #[] 0)).alloc (.cells #[.map (some W.heap.size), .int .i64 (m : Int)] 100)) (fun k => k = W.heap.size ∨ k = W.heap.size + 1) (W.heap.size + 1) m none := by
  refine ⟨W.heap.size, ?_, .inr rfl, .inl rfl, by omega, hm, ?_⟩
  · have := heap_alloc_new (W.alloc (.map #[] 0)) (.cells #[.map (some W.heap.size), .int .i64 (m : Int)] 100)
    rw [World.size_alloc] at this
    exact this
  · exact (MapIs.made W .string).of_block (heap_alloc_old _ _ (by simp))
theorem NdAt.new {W : World} {S : Nat → Prop} {N : Nat} {s : Shp} {me m D : Nat} {x : Cm} (h : NodeAt TreeE W S N s me D m [] none 0 [] [] []) : NdAt W S N s me m x Mdl.new1 :=
  ⟨D, [], none, [], [], h, LogOk.nil, rfl, rfl, ⟨rfl, Nat.zero_le _⟩, trivial, rfl⟩
section
variable {W W' : World} {p : Nat → Nat → Prop} {C : Nat} {s : Shp} {m : Nat} {x : Cm} {q : Kc} {nodes : List Mdl.Nm} {l : List Pk} {nx clock : Nat}
theorem KIs.grow (h : KIs W p C s m x q nodes l nx clock) {n : Mdl.Nm} {N : Nat} {S' : Nat → Prop} {A' U' : Option Addr} {ac' uc' : Nat} {w2 : World} (hS' : ∀ k, S' k → W.heap.size ≤ k) (hlt : Lt S' w2) (ht : Turned (fun _ => False) W w2) (hn : NdAt w2 S' N s nodes.length m x n)
    (ht2 : Turned (fun k => k = C ∨ blk q.A = some k ∨ blk q.U = some k) w2 W') (hC : W'.heap[C]? = some (.cells (kcells { q with nds := q.nds ++ [N], A := A', ac := ac', U := U', uc := uc' } ((nodes ++ [n]).map (·.up)) clock) 88))
    (hA : OwnT ncell 89 1 W' 0 A' ac' (q.nds ++ [N])) (hU : OwnT bcell 4 1 W' 0 U' uc' ((nodes ++ [n]).map (·.up)))
    (hA2 : ∀ k, blk A' = some k → blk q.A = some k ∨ w2.heap.size ≤ k) (hU2 : ∀ k, blk U' = some k → blk q.U = some k ∨ w2.heap.size ≤ k) (hAU : ∀ k, blk A' = some k → blk U' = some k → False) :
    ∃ p', KIs W' p' C s m x { q with nds := q.nds ++ [N], A := A', ac := ac', U := U', uc := uc' } (nodes ++ [n]) l nx clock ∧ (∀ k, uni p' k → uni p k ∨ W.heap.size ≤ k) := by
  have hz2 := ht.size
  have hz3 := ht2.size
  have hcl := h.clt
  have kb : ∀ j k, p j k → w2.heap[k]? = W.heap[k]? := fun j k hk => by
    have := h.pts.lt j k hk
    exact ht.block k this (fun e => e)
  have kc : ∀ j, j ≠ 0 → j ≠ 1 → j ≠ 2 → ∀ k, p j k → W'.heap[k]? = W.heap[k]? := fun j h0 h1 h2 k hk => by
    have := h.pts.lt j k hk
    refine (ht2.block k (by omega) fun e => ?_).trans (kb j k hk)
    rcases e with rfl | e | e
    · exact h.ne0 h0 hk
    · exact h.pts.dj j 1 h1 k hk (h.sA k e)
    · exact h.pts.dj j 2 h2 k hk (h.sU k e)
  have kn : ∀ k, S' k → W'.heap[k]? = w2.heap[k]? := fun k hk => by
    have h0 := hS' k hk
    refine ht2.block k (hlt k hk) fun e => ?_
    rcases e with rfl | e | e
    · omega
    · have := h.pts.lt 1 k (h.sA k e); omega
    · have := h.pts.lt 2 k (h.sU k e); omega
  let p' : Nat → Nat → Prop := fun j => if j = 1 then (fun k => blk A' = some k) else if j = 2 then (fun k => blk U' = some k) else if j = 7 + nodes.length then S' else if j < 7 + nodes.length then p j else fun _ => False
  have e1 : p' 1 = fun k => blk A' = some k := rfl
  have e2 : p' 2 = fun k => blk U' = some k := rfl
  have e7 : p' (7 + nodes.length) = S' := by
    show (if 7 + nodes.length = 1 then _ else _) = _
    rw [if_neg (by omega), if_neg (by omega), if_pos rfl]
  have eo : ∀ j, j ≠ 1 → j ≠ 2 → j < 7 + nodes.length → p' j = p j := fun j h1 h2 h3 => by
    show (if j = 1 then _ else _) = _
    rw [if_neg h1, if_neg h2, if_neg (by omega), if_pos h3]
  have ef : ∀ j, 7 + nodes.length < j → p' j = fun _ => False := fun j hj => by
    show (if j = 1 then _ else _) = _
    rw [if_neg (by omega), if_neg (by omega), if_neg (by omega), if_neg (by omega)]
  have hAk : ∀ k, blk A' = some k → k < W'.heap.size := fun k hk => (hA.lt k hk).2
  have hUk : ∀ k, blk U' = some k → k < W'.heap.size := fun k hk => (hU.lt k hk).2
  -- where a part's blocks lie
  have hin : ∀ j k, p' j k → (j = 1 ∧ (p 1 k ∨ w2.heap.size ≤ k)) ∨ (j = 2 ∧ (p 2 k ∨ w2.heap.size ≤ k)) ∨ (j = 7 + nodes.length ∧ W.heap.size ≤ k ∧ k < w2.heap.size) ∨ (j ≠ 1 ∧ j ≠ 2 ∧ j ≠ 7 + nodes.length ∧ p j k) := fun j k hk => by
    by_cases h1 : j = 1
    · subst h1
      exact .inl ⟨rfl, (hA2 k hk).imp (h.sA k) id⟩
    · by_cases h2 : j = 2
      · subst h2
        exact .inr (.inl ⟨rfl, (hU2 k hk).imp (h.sU k) id⟩)
      · by_cases h7 : j = 7 + nodes.length
        · subst h7
          rw [e7] at hk
          exact .inr (.inr (.inl ⟨rfl, hS' k hk, hlt k hk⟩))
        · by_cases h8 : j < 7 + nodes.length
          · rw [eo j h1 h2 h8] at hk
            exact .inr (.inr (.inr ⟨h1, h2, h7, hk⟩))
          · rw [ef j (by omega)] at hk
            exact hk.elim
  have hpl : ∀ j k, p j k → k < W.heap.size := fun j k hk => h.pts.lt j k hk
  have hpts : Pts p' W' := by
    refine ⟨fun a b hab k ha hb' => ?_, fun a k hk => ?_⟩
    · by_cases hx1 : a = 1 ∧ b = 2
      · obtain ⟨rfl, rfl⟩ := hx1
        exact hAU k ha hb'
      · by_cases hx2 : a = 2 ∧ b = 1
        · obtain ⟨rfl, rfl⟩ := hx2
          exact hAU k hb' ha
        · rcases hin a k ha with ⟨rfl, ha | ha⟩ | ⟨rfl, ha | ha⟩ | ⟨rfl, ha, ha2⟩ | ⟨a1, a2, a7, ha⟩ <;>
            rcases hin b k hb' with ⟨rfl, hb | hb⟩ | ⟨rfl, hb | hb⟩ | ⟨rfl, hb, hb2⟩ | ⟨b1, b2, b7, hb⟩ <;>
            first
              | omega
              | exact h.pts.dj _ _ hab k ha hb
              | (have := hpl _ k ha; omega)
              | (have := hpl _ k hb; omega)
    · rcases hin a k hk with ⟨rfl, _⟩ | ⟨rfl, _⟩ | ⟨rfl, _, h2⟩ | ⟨_, _, _, h2⟩
      · exact hAk k hk
      · exact hUk k hk
      · omega
      · have := hpl a k h2; omega
  refine ⟨p', ⟨hpts, ?_, hC, hA, fun k hk => hk, hU, fun k hk => hk, ?_, h.hK.of_block fun k hk => kc 4 (by omega) (by omega) (by omega) k (h.sK k hk), ?_, h.hT.of_block fun k hk => kc 5 (by omega) (by omega) (by omega) k (h.sT k hk), ?_, h.hZ.of_block fun k hk => kc 6 (by omega) (by omega) (by omega) k (h.sZ k hk), ?_, ?_, fun i n2 N2 hi hN => ?_⟩, ?_⟩
  · rw [eo 0 (by omega) (by omega) (by omega)]; exact h.c0
  · rw [eo 3 (by omega) (by omega) (by omega)]; exact h.hP.frame (kc 3 (by omega) (by omega) (by omega))
  · rw [eo 4 (by omega) (by omega) (by omega)]; exact h.sK
  · rw [eo 5 (by omega) (by omega) (by omega)]; exact h.sT
  · rw [eo 6 (by omega) (by omega) (by omega)]; exact h.sZ
  · rw [List.length_append, List.length_append, h.len]; rfl
  · rw [List.getElem?_append] at hi hN
    by_cases hil : i < nodes.length
    · rw [if_pos hil] at hi
      rw [if_pos (by rw [h.len]; exact hil)] at hN
      rw [eo (7 + i) (by omega) (by omega) (by omega)]
      exact (h.nd i n2 N2 hi hN).frame (by omega) (kc (7 + i) (by omega) (by omega) (by omega))
    · rw [if_neg hil] at hi
      rw [if_neg (by rw [h.len]; exact hil)] at hN
      have hi0 : i = nodes.length := by
        obtain ⟨hx, _⟩ := List.getElem?_eq_some_iff.1 hi
        simp only [List.length_cons, List.length_nil] at hx
        omega
      subst hi0
      rw [Nat.sub_self] at hi
      rw [h.len, Nat.sub_self] at hN
      simp only [List.getElem?_cons_zero, Option.some.injEq] at hi hN
      subst hi; subst hN
      rw [e7]
      exact hn.frame hz3 kn
  · rintro k ⟨j, hj⟩
    rcases hin j k hj with ⟨rfl, h2 | h2⟩ | ⟨rfl, h2 | h2⟩ | ⟨rfl, h2, _⟩ | ⟨_, _, _, h2⟩
    · exact .inl ⟨_, h2⟩
    · exact .inr (by omega)
    · exact .inl ⟨_, h2⟩
    · exact .inr (by omega)
    · exact .inr h2
    · exact .inl ⟨_, h2⟩
end
theorem ncell_one (n : Nat) : ∀ u ∈ ncell n, u.oneCell' = true := by
  intro u hu
  simp only [ncell, List.mem_cons, List.not_mem_nil, or_false] at hu
  rw [hu]; rfl
theorem Tryz.infoNp : (Tryz.prog.info? 89).map (fun i => (i.zero, i.size, i.bytes)) = some (some (.pointer none), 1, 8) := by kernel_rfl
theorem Tryz.infoBo : (Tryz.prog.info? 4).map (fun i => (i.zero, i.size, i.bytes)) = some (some (.bool false), 1, 1) := by kernel_rfl
def q00 (G : Nat) : Kc := ⟨[], none, 0, none, 0, G, none, 0, [], none, 0, [], none, 0, []⟩
theorem KIs.start {W : World} {C G m : Nat} {s : Shp} {x : Cm} (hC : W.heap[C]? = some (.cells #[.slice none 0 0, .slice none 0 0, .pointer (some ⟨G, 0, none⟩), .int .i64 0, .slice none 0 0, .slice none 0 0, .slice none 0 0] 88)) (hP : PlAt W (fun k => k = G) G 0 []) (hCG : C ≠ G) (hG : G < W.heap.size) :
    KIs W (fun j k => (j = 0 ∧ k = C) ∨ (j = 3 ∧ k = G)) C s m x (q00 G) [] [] 0 0 := by
  have hCl := (Array.getElem?_eq_some_iff.1 hC).1
  refine ⟨⟨fun i j hij k hi hj => ?_, fun i k hk => ?_⟩, .inl ⟨rfl, rfl⟩, hC, OwnT.nil _ _ _ _ _, (fun k hk => by cases hk), OwnT.nil _ _ _ _ _, (fun k hk => by cases hk), ?_, OwnT.nil _ _ _ _ _, (fun k hk => by cases hk), OwnT.nil _ _ _ _ _, (fun k hk => by cases hk), OwnT.nil _ _ _ _ _, (fun k hk => by cases hk), rfl, fun i n N hi => by cases hi⟩
  · rcases hi with ⟨h1, h2⟩ | ⟨h1, h2⟩ <;> rcases hj with ⟨h3, h4⟩ | ⟨h3, h4⟩ <;> omega
  · rcases hk with ⟨_, h2⟩ | ⟨_, h2⟩ <;> omega
  · exact hP.mono fun k hk _ => .inr ⟨rfl, hk⟩
def GrownTo (w7 : World) (C N : Nat) (A U : Option Addr) (nds : List Nat) (ups : List Bool) (v2 v3 v4 v5 v6 : Value) (wx : World) : Prop :=
  ∃ (BA : Option Addr) (dA : Nat) (XA : List Nat) (BB : Option Addr) (dB : Nat) (XB : List Bool), XA = nds ++ [N] ∧ XB = ups ++ [true] ∧ wx.heap[C]? = some (.cells #[.slice BA XA.length dA, .slice BB XB.length dB, v2, v3, v4, v5, v6] 88) ∧ OwnT ncell 89 1 wx 0 BA dA XA ∧ OwnT bcell 4 1 wx 0 BB dB XB ∧
    (∀ a, blk BA = some a → blk A = some a ∨ w7.heap.size ≤ a) ∧ (∀ a, blk BB = some a → blk U = some a ∨ w7.heap.size ≤ a) ∧ (∀ a, blk BA = some a → blk BB = some a → False) ∧ Turned (fun a => a = C ∨ blk A = some a ∨ blk U = some a) w7 wx
theorem grow_end {w7 pre1 wA pre2 wE : World} {C N A7c U7c : Nat} {A U BA BB : Option Addr} {dA dB : Nat} {nds XA : List Nat} {ups XB : List Bool} {v2 v3 v4 v5 v6 : Value}
    (hC : w7.heap[C]? = some (.cells #[.slice A nds.length A7c, .slice U ups.length U7c, v2, v3, v4, v5, v6] 88)) (hAC : blk A ≠ some C) (hUC : blk U ≠ some C) (hAU : ∀ a, blk A = some a → blk U ≠ some a) (hUl : ∀ a, blk U = some a → a < w7.heap.size)
    (h1 : Turned (fun _ => False) w7 pre1) (hgA : pre1.grownBy wA (blk A)) (haA : blk BA = blk A ∨ blk BA = some pre1.heap.size) (h2 : Turned (fun _ => False) wA pre2) (hgB : pre2.grownBy wE (blk U)) (haB : blk BB = blk U ∨ blk BB = some pre2.heap.size)
    (hXA : Hid (XA = nds ++ [N])) (hXB : Hid (XB = ups ++ [true])) (hoA : OwnT ncell 89 1 wA 0 BA dA XA) (hoB : OwnT bcell 4 1 wE 0 BB dB XB) :
    GrownTo w7 C N A U nds ups v2 v3 v4 v5 v6 ((wE.setCell ⟨C, 0, none⟩ (.slice BA XA.length dA)).setCell ⟨C, 1, none⟩ (.slice BB XB.length dB)) := by
  have hCl := (Array.getElem?_eq_some_iff.1 hC).1
  have s1 := h1.size
  have s2 := hgA.size
  have s3 := h2.size
  have s4 := hgB.size
  have hBA : ∀ a, blk BA = some a → blk A = some a ∨ w7.heap.size ≤ a := fun a ha => by
    rcases haA with h | h
    · exact .inl (h ▸ ha)
    · rw [h] at ha
      injection ha with ha
      exact .inr (by omega)
  have hBB : ∀ a, blk BB = some a → blk U = some a ∨ w7.heap.size ≤ a := fun a ha => by
    rcases haB with h | h
    · exact .inl (h ▸ ha)
    · rw [h] at ha
      injection ha with ha
      exact .inr (by omega)
  have hAnC : ∀ a, blk BA = some a → a ≠ C := fun a ha e => by
    rcases hBA a ha with h | h
    · exact hAC (e ▸ h)
    · omega
  have hBnC : ∀ a, blk BB = some a → a ≠ C := fun a ha e => by
    rcases hBB a ha with h | h
    · exact hUC (e ▸ h)
    · omega
  have hAnU : ∀ a, blk BA = some a → ¬ some a = blk U := fun a ha e => by
    rcases hBA a ha with h | h
    · exact hAU a h e.symm
    · have := hUl a e.symm; omega
  have hCE : wE.heap[C]? = w7.heap[C]? := (hgB.block C (by omega) (fun e => hUC e.symm)).trans ((h2.block C (by omega) (fun e => e)).trans ((hgA.block C (by omega) (fun e => hAC e.symm)).trans (h1.block C hCl (fun e => e))))
  have hC1 := heap_setCell_same wE C 0 _ _ (.slice BA XA.length dA) (hCE.trans hC)
  have hC2 := heap_setCell_same _ C 1 _ _ (.slice BB XB.length dB) hC1
  have hoAE : OwnT ncell 89 1 wE 0 BA dA XA := hoA.of_block fun a ha => by
    have hlt := (hoA.lt a ha).2
    exact (hgB.block a (by omega) (hAnU a ha)).trans (h2.block a hlt (fun e => e))
  have hset : ∀ a, a ≠ C → ((wE.setCell ⟨C, 0, none⟩ (.slice BA XA.length dA)).setCell ⟨C, 1, none⟩ (.slice BB XB.length dB)).heap[a]? = wE.heap[a]? := fun a ha => (heap_setCell_other _ _ _ _ ha).trans (heap_setCell_other _ _ _ _ ha)
  refine ⟨BA, dA, XA, BB, dB, XB, hXA.out, hXB.out, hC2, hoAE.of_block fun a ha => hset a (hAnC a ha), hoB.of_block fun a ha => hset a (hBnC a ha), hBA, hBB, fun a ha hb => ?_, ?_⟩
  · have hlt := (hoA.lt a ha).2
    rcases haB with h | h
    · exact hAnU a ha (h ▸ hb).symm
    · rw [h] at hb
      injection hb with hb
      omega
  · have t1 : Turned (fun a => a = C ∨ blk A = some a ∨ blk U = some a) w7 wA := (h1.wide (fun _ e _ => e.elim)).grown hgA (fun a ha => .inl (.inr (.inl ha)))
    have t2 : Turned (fun a => a = C ∨ blk A = some a ∨ blk U = some a) w7 wE := (t1.trans (h2.wide (fun _ e _ => e.elim))).grown hgB (fun a ha => .inl (.inr (.inr ha)))
    exact (t2.setCell (p := ⟨C, 0, none⟩) (.inl (.inl rfl)) _).setCell (p := ⟨C, 1, none⟩) (.inl (.inl rfl)) _
theorem cnew_any (s : Shp) (hs : s.Ok) (m : Nat) (hm2 : m ≤ 65536) (x : Cm) (W : World) :
    Calls Tryz.prog 29 #[shv s, .int .i64 (m : Int)] W fun e W' => ∃ C S', e = .returned (.tuple #[.pointer (some ⟨C, 0, none⟩), .int .i64 0]) ∧ KAt W' S' C s m x (Mdl.newK s.n) ∧ Step (fun _ => False) W W' S' := by
  have HR := Lib.hid (fun w => cright_yes s hs w)
  have HN := Lib.hid (fun w => cn_any s hs w)
  have HP := Lib.hid pnew_any
  have HDn := Lib.hid (fun w => dnew_any m hm2 w)
  have HDf := Lib.hid (fun w => DiskAt.fresh m hm2 w)
  have HNn := Lib.hid (fun me hme D Sd w hD hSd => nnew_any s hs me hme D m Sd w hD hSd)
  obtain ⟨iN, hiN, hn0, hn1, hn2⟩ := info_parts Tryz.infoNp
  obtain ⟨iB, hiB, hb0, hb1, hb2⟩ := info_parts Tryz.infoBo
  have hn7 : s.n ≤ 7 := hs.n7
  obtain ⟨K, F⟩ := s
  unfold shv at HR HN HNn ⊢
  simp only [] at HR HN HNn ⊢
  go_enter Tryz.func29, Tryz.ntmps29
  go_wp2_with fail
  generalize hw1 : World.alloc W _ = w1
  have hB := named_new hw1.symm
  have hbw1 := named_below hw1.symm
  have hz1 : W.heap.size < w1.heap.size := by rw [named_size hw1.symm]; omega
  clear hw1
  refine (HR.out w1).mono ?_
  rintro e w2 ⟨rfl, hbw2⟩
  have hz2 := hbw2.size
  have hB2 := (hbw2.block W.heap.size hz1).trans hB
  have HB2 := Lib.hid (hbw1.trans (hbw2.mono (Nat.le_of_lt hz1)))
  have HBl2 := Lib.hid hB2
  clear hB hbw1 hbw2 hB2
  go_wp2_with fail
  refine (HP.out w2).mono ?_
  rintro e w3 ⟨rfl, hP3, hbw3, hz3⟩
  have HP3 := Lib.hid hP3
  have HB3 := Lib.hid hbw3
  have hz23 : w2.heap.size < w3.heap.size := by omega
  have HBl3 := Lib.hid ((hbw3.block W.heap.size (by omega)).trans HBl2.out)
  clear hP3 hbw3 hz3
  have hl3 : W.heap.size < w3.heap.size := by omega
  have xa0 : ∀ o, (w3.alloc o).cell? ⟨W.heap.size, 0, none⟩ = some (.int .i64 (K : Int)) := fun o => cob ((heap_alloc_old w3 o hl3).trans HBl3.out) 0 rfl
  have xa1 : ∀ o, (w3.alloc o).cell? ⟨W.heap.size, 1, none⟩ = some (.int .i64 (F : Int)) := fun o => cob ((heap_alloc_old w3 o hl3).trans HBl3.out) 1 rfl
  go_wp2_with fail
  generalize hw4 : World.alloc w3 _ = w4
  have hC := named_new hw4.symm
  have hb4 := named_below hw4.symm
  have hz4 : w3.heap.size < w4.heap.size := by rw [named_size hw4.symm]; omega
  clear hw4 xa0 xa1
  refine (HN.out w4).mono ?_
  rintro e w5 ⟨rfl, hb5⟩
  have hz5 := hb5.size
  have HBs := Lib.hid ((hb5.block W.heap.size (by omega)).trans ((hb4.block W.heap.size (by omega)).trans HBl3.out))
  have HT5 := Lib.hid (show Turned (fun _ => False) W w5 from ((((Turned.of_below HB2.out).trans (Turned.of_below HB3.out)).trans (Turned.of_below hb4)).trans (Turned.of_below hb5)))
  have HK5 := Lib.hid (KIs.start (s := ⟨K, F⟩) (m := m) (x := x) ((hb5.block w3.heap.size hz4).trans hC) ((HP3.out.frame fun k hk => by
    subst hk
    exact (hb5.block w2.heap.size (by omega)).trans (hb4.block w2.heap.size hz23))) (by omega) (show w2.heap.size < w5.heap.size by omega))
  have hW5 : W.heap.size < w5.heap.size := by omega
  have hC5 : W.heap.size < w3.heap.size := hl3
  have HU5 := Lib.hid (show ∀ k, uni (fun j k => (j = 0 ∧ k = w3.heap.size) ∨ (j = 3 ∧ k = w2.heap.size)) k → W.heap.size < k from fun k hk => by
    obtain ⟨j, ⟨_, h⟩ | ⟨_, h⟩⟩ := hk <;> omega)
  clear hb4 hb5 hC
  go_wp2
  go_loopw [18] (fun i wr => ∃ (k : Nat) (p : Nat → Nat → Prop) (q : Kc), k ≤ Shp.n ⟨K, F⟩ ∧ i = .int .i64 k ∧ Hid (KIs wr p w3.heap.size ⟨K, F⟩ m x q (List.replicate k Mdl.new1) [] 0 0) ∧ Hid (q.asked = [] ∧ q.told = [] ∧ q.seen = []) ∧ Hid (∀ k, uni p k → W.heap.size < k) ∧ Hid (Turned (fun _ => False) W wr) ∧ Hid (wr.heap[W.heap.size]? = some (.cells #[.int .i64 (K : Int), .int .i64 (F : Int)] 25))) (fun i _ => Shp.n ⟨K, F⟩ - (intOf i).toNat)
  case atStart => exact ⟨0, _, _, Nat.zero_le _, rfl, HK5, Lib.hid ⟨rfl, rfl, rfl⟩, HU5, HT5, HBs⟩
  case round =>
    obtain ⟨k, p, q, hk, rfl, HKr, HQ, HU, HT, HBr⟩ := hrel
    by_cases hkn : k < Shp.n ⟨K, F⟩
    · obtain ⟨V, hV⟩ : ∃ V, wr.heap[W.heap.size]? = some V := ⟨_, HBr.out⟩
      have x0 : ∀ w : World, w.heap[W.heap.size]? = some V → w.cell? ⟨W.heap.size, 0, none⟩ = some (.int .i64 (K : Int)) := fun w hw => cob (hw.trans (hV.symm.trans HBr.out)) 0 rfl
      have x1 : ∀ w : World, w.heap[W.heap.size]? = some V → w.cell? ⟨W.heap.size, 1, none⟩ = some (.int .i64 (F : Int)) := fun w hw => cob (hw.trans (hV.symm.trans HBr.out)) 1 rfl
      have hVd : wr.drew.heap[W.heap.size]? = some V := hV
      have hzr : W.heap.size < wr.heap.size := (Array.getElem?_eq_some_iff.1 hV).1
      have dk : ((k : Nat) : Int) < ((Shp.n ⟨K, F⟩ : Nat) : Int) := by omega
      have HD1 := Lib.hid (HDn.out wr.drew)
      obtain ⟨w6, hw6⟩ : ∃ w6, w6 = (wr.drew.alloc (.map #[] 0)).alloc (.cells #[.map (some wr.drew.heap.size), .int .i64 (m : Int)] 100) := ⟨_, rfl⟩
      have hz6 : w6.heap.size = wr.heap.size + 2 := by rw [hw6]; simp
      have hb6 : Below wr.heap.size wr w6 := by
        rw [hw6]
        exact below_undrew ((Below.refl wr.drew.heap.size wr.drew).alloc (Nat.le_refl _) _ |>.alloc (by simp) _)
      have HD6 := Lib.hid (show DiskAt w6 (fun k => k = wr.heap.size ∨ k = wr.heap.size + 1) (wr.heap.size + 1) m none from by rw [hw6]; exact HDf.out wr.drew)
      rw [← hw6] at HD1
      have HN6 := Lib.hid (HNn.out k hkn (wr.heap.size + 1) _ w6 HD6.out (fun a ha => by rcases ha with h | h <;> omega))
      have hV6 : w6.heap[W.heap.size]? = some V := (hb6.block W.heap.size hzr).trans hV
      have hz6' : wr.heap.size < w6.heap.size := by omega
      have HB6 := Lib.hid hb6
      have HZ6 := Lib.hid hz6
      clear hw6 hz6 hb6
      go_wp2
      go_region_held3 (fun w' => w'.heap[W.heap.size]? = some V)
        (first | with_reducible exact HS2 | with_reducible exact hV6 | with_reducible exact hV | with_reducible exact hVd)
        (first
          | (go_at_call 60; (with_reducible refine HN6.out.mono ?_); rintro e w7 ⟨N, S7, rfl, hN7, hS7⟩; have HS2 := (hS7.t.block W.heap.size (Nat.lt_trans hzr hz6') (fun e => by rcases e with e | e <;> omega)).trans hV6)
          | (go_at_call 61; (with_reducible refine HD1.out.mono ?_); rintro e w6' ⟨rfl, rfl⟩))
      have hz7 : wr.heap.size + 2 ≤ w7.heap.size := by have := hS7.t.size; have := HZ6.out; omega
      have T7 : Turned (fun _ => False) wr w7 := (Turned.of_below HB6.out).next hS7.t (fun a ha => .inr (by rcases ha with e | e <;> omega))
      have HK7 := Lib.hid (HKr.out.frame T7.size fun a ha => T7.block a (HKr.out.pts.uni_lt a ha) (fun e => e))
      have HS7 := Lib.hid (show ∀ a, S7 a → wr.heap.size ≤ a from fun a ha => by
        rcases hS7.sub a ha with (e | e) | e
        · omega
        · omega
        · exact Nat.le_trans (Nat.le_of_lt hz6') e)
      have HL7 := Lib.hid hS7.lt
      have HN7 := Lib.hid (NdAt.new (x := x) hN7)
      have HT7 := Lib.hid T7
      have HV7 := Lib.hid HS2
      have HVr := Lib.hid hV
      clear hS7 T7 hN7 HS2 hVd hV6 x0 x1 hV
      obtain ⟨nds, A, ac, U, uc, G, Ka, kc, asked, Tq, tc, told, Z, zc, seen⟩ := q
      obtain ⟨ups, hups⟩ : ∃ ups, ups = (List.replicate k Mdl.new1).map (·.up) := ⟨_, rfl⟩
      have hC7 := HK7.out.hC
      have hOA := HK7.out.hA
      have hOU := HK7.out.hU
      rw [← hups] at hC7 hOU
      unfold kcells at hC7
      simp only [] at hC7 hOA hOU
      have hnl : nds.length = k := by have := HK7.out.len; simpa using this
      have hul : ups.length = k := by rw [hups]; simp
      have hAC : blk A ≠ some w3.heap.size := fun e => HK7.out.ne0 (i := 1) (by omega) (HK7.out.sA _ e)
      have hUC : blk U ≠ some w3.heap.size := fun e => HK7.out.ne0 (i := 2) (by omega) (HK7.out.sU _ e)
      have hAU : ∀ a, blk A = some a → blk U ≠ some a := fun a ha hu => HK7.out.pts.dj 1 2 (by omega) a (HK7.out.sA a ha) (HK7.out.sU a hu)
      have hAl : ∀ a, blk A = some a → a < w7.heap.size := fun a ha => (hOA.lt a ha).2
      have hUl : ∀ a, blk U = some a → a < w7.heap.size := fun a ha => (hOU.lt a ha).2
      have hCl : w3.heap.size < w7.heap.size := HK7.out.clt
      have c0 : w7.cell? ⟨w3.heap.size, 0, none⟩ = some (.slice A nds.length ac) := cob hC7 0 rfl
      have c1 : w7.cell? ⟨w3.heap.size, 1, none⟩ = some (.slice U ups.length uc) := cob hC7 1 rfl
      have f0 : ∀ j, w7.frozen? ⟨w3.heap.size, j, none⟩ = false := fun j => by simp [World.frozen?, hC7]
      have HTc := Lib.hid (fun (w' : World) (h : w'.heap[w3.heap.size]? = w7.heap[w3.heap.size]?) => (⟨cob (h.trans hC7) 0 rfl, cob (h.trans hC7) 1 rfl, fun j => by simp [World.frozen?, h.trans hC7]⟩ : w'.cell? ⟨w3.heap.size, 0, none⟩ = some (.slice A nds.length ac) ∧ w'.cell? ⟨w3.heap.size, 1, none⟩ = some (.slice U ups.length uc) ∧ ∀ j, w'.frozen? ⟨w3.heap.size, j, none⟩ = false))
      have HC7 := Lib.hid hC7
      have HNL := Lib.hid hnl
      have HUL := Lib.hid hul
      have HUPS := Lib.hid hups
      have hnl7 : nds.length ≤ 7 := by omega
      have hul7 : ups.length ≤ 7 := by omega
      have ca0 := fun o => (HTc.out (w7.alloc o).drew (heap_alloc_old w7 o hCl)).1
      have ca1 := fun o => (HTc.out (w7.alloc o).drew (heap_alloc_old w7 o hCl)).2.1
      have hCl2 : ∀ o, w3.heap.size < (w7.alloc o).heap.size := fun o => by simp; omega
      have cb0 := fun o o2 => (HTc.out ((w7.alloc o).alloc o2).drew ((heap_alloc_old (w7.alloc o) o2 (hCl2 o)).trans (heap_alloc_old w7 o hCl))).1
      have cb1 := fun o o2 => (HTc.out ((w7.alloc o).alloc o2).drew ((heap_alloc_old (w7.alloc o) o2 (hCl2 o)).trans (heap_alloc_old w7 o hCl))).2.1
      clear hC7 hnl hul hups
      have hnA : ∀ a, blk U = some a → ¬ some a = blk A := fun a hu e => hAU a e.symm hu
      have hnB : ∀ a, blk A = some a → ¬ some a = blk U := fun a ha e => hAU a ha e.symm
      have hgeA : ∀ g, w7.heap.size ≤ g → ¬ some g = blk A := fun g hg e => by have := hAl g e.symm; omega
      have hgeB : ∀ g, w7.heap.size ≤ g → ¬ some g = blk U := fun g hg e => by have := hUl g e.symm; omega
      have HREL := Lib.hid (show ∀ wc, GrownTo w7 w3.heap.size N A U nds ups (.pointer (some ⟨G, 0, none⟩)) (.int .i64 ((0 : Nat) : Int)) (.slice Ka asked.length kc) (.slice Tq told.length tc) (.slice Z seen.length zc) wc → ∃ (p : Nat → Nat → Prop) (q : Kc), Hid (KIs wc p w3.heap.size ⟨K, F⟩ m x q (List.replicate (k + 1) Mdl.new1) [] 0 0) ∧ Hid (q.asked = [] ∧ q.told = [] ∧ q.seen = []) ∧ Hid (∀ k, uni p k → W.heap.size < k) ∧ Hid (Turned (fun _ => False) W wc) ∧ Hid (wc.heap[W.heap.size]? = some (.cells #[.int .i64 (K : Int), .int .i64 (F : Int)] 25)) from fun wc hcut => by
        obtain ⟨BA, dA, XA, BB, dB, XB, eA, eB, hCx, hOx, hUx, bA, bB, bAB, tX⟩ := hcut
        obtain ⟨p', hK', hsub⟩ := HKr.out.grow (n := Mdl.new1) (N := N) HS7.out HL7.out HT7.out (by rw [List.length_replicate]; exact HN7.out) tX
          (A' := BA) (U' := BB) (ac' := dA) (uc' := dB) (by
            rw [eA, eB] at hCx
            have e9 : (List.replicate k Mdl.new1 ++ [Mdl.new1]).map (·.up) = ups ++ [true] := by rw [List.map_append, ← HUPS.out]; rfl
            unfold kcells
            rw [e9]
            exact hCx) (by rw [eA] at hOx; exact hOx) (by
            have e9 : (List.replicate k Mdl.new1 ++ [Mdl.new1]).map (·.up) = ups ++ [true] := by rw [List.map_append, ← HUPS.out]; rfl
            rw [e9, ← eB]
            exact hUx) bA bB bAB
        have HK' := Lib.hid (show KIs wc p' w3.heap.size ⟨K, F⟩ m x _ (List.replicate (k + 1) Mdl.new1) [] 0 0 by rw [List.replicate_succ']; exact hK')
        have HU' := Lib.hid (show ∀ a, uni p' a → W.heap.size < a from fun a ha => by
          rcases hsub a ha with h | h
          · exact HU.out a h
          · omega)
        have HT' := Lib.hid (show Turned (fun _ => False) W wc from (HT.out.trans HT7.out).next tX (fun a ha => by
          rcases ha with rfl | ha | ha
          · exact .inr (by omega)
          · exact .inr (Nat.le_of_lt (HU.out a ⟨1, HKr.out.sA a ha⟩))
          · exact .inr (Nat.le_of_lt (HU.out a ⟨2, HKr.out.sU a ha⟩))))
        have HB' := Lib.hid (show wc.heap[W.heap.size]? = some (.cells #[.int .i64 (K : Int), .int .i64 (F : Int)] 25) from (tX.block W.heap.size (by omega) (fun e => by
          rcases e with e | e | e
          · omega
          · have := HU.out _ ⟨1, HKr.out.sA _ e⟩; omega
          · have := HU.out _ ⟨2, HKr.out.sU _ e⟩; omega)).trans (HV7.out.trans (by rw [← HBr.out]; exact HVr.out.symm)))
        have HQ' := Lib.hid (show asked = [] ∧ told = [] ∧ seen = [] from HQ.out)
        exact ⟨p', _, HK', HQ', HU', HT', HB'⟩)
      go_wp2
      have new1 : ∀ o, (w7.alloc o).heap[w7.heap.size]? = some o := fun o => heap_alloc_new w7 o
      have old1 : ∀ o o2, ((w7.alloc o).alloc o2).heap[w7.heap.size]? = some o := fun o o2 => (heap_alloc_old (w7.alloc o) o2 (by simp)).trans (heap_alloc_new w7 o)
      have new2 : ∀ o o2, ((w7.alloc o).alloc o2).heap[w7.heap.size + 1]? = some o2 := fun o o2 => by
        have := heap_alloc_new (w7.alloc o) o2
        rwa [World.size_alloc] at this
      go_region_law (first
        | (have _ := MA; (refine step_append_st bcell _ bcell_one (by rfl) _ _ _ (by rfl) 0 4 iB _ 1 1 bcell_len (by decide) Tryz.underlying84 hiB hb0 hb1 hb2 (by rfl) _ _ ups (by rfl) (by first | exact hUA | exact hUA.alloc _) _ _ true (0, 0) _ (by rfl) (by first | exact heap_alloc_new _ _ | exact (hgA.block _ (by first | (simp; done) | (simp; omega)) (hgeA _ (by omega))).trans (new2 _ _) | exact (hgA.block _ (by first | (simp; done) | (simp; omega)) (hgeA _ (by omega))).trans (old1 _ _)) (by unfold maxLen; omega) (by omega) (Nat.zero_le _) ?_; intro XB BB dB wE hXB hoB hbB hgB haB; have eCE : wE.heap[w3.heap.size]? = w7.heap[w3.heap.size]? := (by first | exact (hgB.block _ hlA (fun e => hUC e.symm)).trans eCA | exact (hgB.block _ (by simp; omega) (fun e => hUC e.symm)).trans ((heap_alloc_old wA _ hlA).trans eCA)); have zE := HTc.out wE eCE; have zE0 := zE.1; have zE1 := zE.2.1; have zEf := zE.2.2))
        | ((refine step_append_st ncell _ ncell_one (by rfl) _ _ _ (by rfl) 0 89 iN _ 1 8 ncell_len (by decide) Tryz.underlying83 hiN hn0 hn1 hn2 (by rfl) _ _ nds (by rfl) (by first | exact (hOA.alloc _).drew | exact ((hOA.alloc _).alloc _).drew) _ _ N (0, 0) _ (by rfl) (by first | exact new1 _ | exact old1 _ _ | exact new2 _ _) (by unfold maxLen; omega) (by omega) (Nat.zero_le _) ?_; intro XA BA dA wA hXA hoA hbA hgA haA; have MA : True := trivial; have eCA : wA.heap[w3.heap.size]? = w7.heap[w3.heap.size]? := (by first | exact (hgA.block _ (by simp; omega) (fun e => hAC e.symm)).trans (heap_alloc_old w7 _ hCl) | exact (hgA.block _ (by simp; omega) (fun e => hAC e.symm)).trans ((heap_alloc_old (w7.alloc _) _ (hCl2 _)).trans (heap_alloc_old w7 _ hCl))); have hUA : OwnT bcell 4 1 wA 0 U uc ups := (by first | exact OwnT.of_block ((hOU.alloc _).drew) (fun a ha => hgA.block a (by have := hUl a ha; simp; omega) (hnA a ha)) | exact OwnT.of_block (((hOU.alloc _).alloc _).drew) (fun a ha => hgA.block a (by have := hUl a ha; simp; omega) (hnA a ha))); have hzA : w7.heap.size < wA.heap.size := (by have := hgA.size; simp at this; omega); have hlA : w3.heap.size < wA.heap.size := (by omega); have zA := HTc.out wA eCA; have zA1 := zA.2.1; have zAo := fun o => (HTc.out (wA.alloc o) ((heap_alloc_old wA o hlA).trans eCA)).2.1)))
      all_goals
        go_wp2_with fail
        go_roundw
        case rel =>
          obtain ⟨p', q', r1, r2, r3, r4, r5⟩ := HREL.out _ (by
            first
              | exact grow_end HC7.out hAC hUC hAU hUl (((Turned.refl _ w7).alloc _).drew) hgA haA (Turned.refl _ wA) hgB haB hXA hXB hoA hoB
              | exact grow_end HC7.out hAC hUC hAU hUl (((Turned.refl _ w7).alloc _).drew) hgA haA ((Turned.refl _ wA).alloc _) hgB haB hXA hXB hoA hoB
              | exact grow_end HC7.out hAC hUC hAU hUl ((((Turned.refl _ w7).alloc _).alloc _).drew) hgA haA (Turned.refl _ wA) hgB haB hXA hXB hoA hoB
              | exact grow_end HC7.out hAC hUC hAU hUl ((((Turned.refl _ w7).alloc _).alloc _).drew) hgA haA ((Turned.refl _ wA).alloc _) hgB haB hXA hXB hoA hoB)
          exact ⟨k + 1, p', q', by omega, by go_num, r1, r2, r3, r4, r5⟩
        case measure => simp [intOf]; omega
    · obtain rfl : k = Shp.n ⟨K, F⟩ := by omega
      have di : decide (((Shp.n ⟨K, F⟩ : Nat) : Int) < ((Shp.n ⟨K, F⟩ : Nat) : Int)) = false := by simp
      go_wp2
      go_ret2
      obtain ⟨e1, e2, e3⟩ := HQ.out
      refine ⟨w3.heap.size, uni p, rfl, ⟨p, q, [], HKr.out, fun j hj => hj, ⟨rfl, (fun y hy => by cases hy), Nat.zero_le _, Nat.zero_le _, (by show 0 < 900000; omega), (by rw [e1]; exact Nat.zero_le _), (by rw [e3]; exact Nat.zero_le _), (by rw [e2]; rfl), (by rw [e2]; exact Nat.zero_le _)⟩, (by show (List.replicate _ _).length = _; rw [List.length_replicate])⟩, HT.out, fun j hj => .inr (Nat.le_of_lt (HU.out j hj)), fun j hj => HKr.out.pts.uni_lt j hj⟩
end Go.Proofs.YtoigogjmhkpdlaaGreat
