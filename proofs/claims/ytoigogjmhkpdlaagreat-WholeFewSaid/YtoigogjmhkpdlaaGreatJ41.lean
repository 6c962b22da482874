/- A part of the proof of WholeFew: the texts NextA. -/
import Derived.Test.YtoigogjmhkpdlaaGreatJ39
set_option maxHeartbeats 12800000
set_option maxRecDepth 100000
namespace Go.Proofs.YtoigogjmhkpdlaaGreat
open Go.RowKit
theorem Tryz.infoSe : (Tryz.prog.info? 64).map (fun i => (i.zero, i.size, i.bytes)) = some (some (.agg #[.int .i64 0, .int .i64 0, .int .i64 0, .int .i64 0, .bool false, .string ByteArray.empty]), 6, 56) := by kernel_rfl
theorem cnext_down (s : Shp) (x0 : Cm) (m : Nat) (C : Nat) (y : Sp) (p : Nat → Nat → Prop) (q : Kc) (nodes : List Mdl.Nm) (l l2 : List Pk) (pk : Pk) (hpop : popG lessB l = some (pk, l2)) (hl0 : 0 < l.length) (hlen : l.length ≤ 600) (nx clock : Nat) (n : Mdl.Nm) (hi : nodes[pk.m.to]? = some n) (hup : n.up = false) (W : World) (hK : KIs W p C s m x0 q nodes l nx clock) :
    Calls Tryz.prog 32 #[.pointer (some ⟨C, 0, none⟩), spv y] W fun e W' => e = .returned (.tuple #[]) ∧ KIs W' p C s m x0 q nodes l2 nx clock ∧ Step (uni p) W W' (uni p) := by
  have HNx := Lib.hid (fun w (hb : Below W.heap.size W w) => pnext_is (p 3) q.G nx l hl0 hlen pk l2 hpop w (hK.below hb).hP ((hK.below hb).pts.lt 3))
  have HK := Lib.hid hK
  have hupn : (nodes.map (·.up))[pk.m.to]? = some false := by rw [List.getElem?_map, hi, ← hup]; rfl
  have HUp := Lib.hid (fun w (h : KIs w p C s m x0 q nodes l2 nx clock) => up_any C _ _ _ _ _ _ q.U q.uc 0 (nodes.map (fun z : Mdl.Nm => z.up)) pk.m.to false hupn w h.hC h.hU)
  have c2 : ∀ w : World, Below W.heap.size W w → w.cell? ⟨C, 2, none⟩ = some (.pointer (some ⟨q.G, 0, none⟩)) := fun w hb => cob ((hb.block C hK.clt).trans hK.hC) 2 rfl
  clear hK hupn hi hup hpop hl0 hlen
  obtain ⟨⟨a0, a1, a2, a3, a4, ⟨a5, a6, a7, a8, a9⟩⟩, due, no⟩ := pk
  unfold mgv mcells at HNx
  simp only [] at HNx HUp
  obtain ⟨kd, nd, j, full, ⟨cl0, sq, kind, row, col, tt, at_, value, expect, has⟩⟩ := y
  unfold spv spcells cmcells
  simp only [List.cons_append, List.nil_append]
  go_enter Tryz.func32, Tryz.ntmps32
  go_upto_region 1 with (fail)
  generalize hw1 : World.alloc W _ = w1
  have hb1 := named_below hw1.symm
  clear hw1
  have g2 := c2 w1 hb1
  have HN1 := Lib.hid (HNx.out w1 hb1)
  have HB1 := Lib.hid hb1
  clear c2 hb1
  go_wp2_with fail
  refine HN1.out.mono ?_
  rintro e w2 ⟨rfl, hP2, hT2⟩
  have HK2 := Lib.hid (show KIs w2 p C s m x0 q nodes l2 nx clock from (HK.out.below HB1.out).pool0 hT2 hP2)
  have HT2 := Lib.hid hT2
  clear hP2 hT2
  go_wp2_with fail
  generalize hw3 : World.alloc w2 _ = w3
  have hM := named_new hw3.symm
  have hb3 := named_below hw3.symm
  clear hw3
  have HB3 := Lib.hid hb3
  have m2 : w3.cell? ⟨w2.heap.size, 2, none⟩ = some (.int .i64 (a2 : Int)) := cob hM 2 rfl
  have HU3 := Lib.hid (HUp.out w3 (HK2.out.below hb3))
  clear hM hb3
  go_wp2_with (first | (go_at_call 14; (with_reducible refine HU3.out.mono ?_); rintro e w3' ⟨rfl, rfl⟩))
  refine bodyPost_ret (results_none rfl _ _ _) rfl ⟨rfl, HK2.out.below HB3.out, ?_⟩
  have t1 : Turned (uni p) W w2 := (Turned.of_below HB1.out).trans (HT2.out.wide fun k hk _ => ⟨3, hk⟩)
  exact ⟨t1.below HB3.out t1.size, fun k hk => .inl hk, (HK2.out.below HB3.out).pts.uni_lt⟩
theorem cnext_of (s : Shp) (x0 : Cm) (m : Nat) (C : Nat) (y : Sp) (p : Nat → Nat → Prop) (q : Kc) (nodes : List Mdl.Nm) (l l2 : List Pk) (pk : Pk) (hpop : popG lessB l = some (pk, l2)) (hl0 : 0 < l.length) (hlen : l.length ≤ 600) (nx clock : Nat) (hclock : clock < 1000000) (n n' : Mdl.Nm) (N : Nat) (hi : nodes[pk.m.to]? = some n) (hup : n.up = true) (hup' : n'.up = n.up) (hN : q.nds[pk.m.to]? = some N) (htold : q.told.length ≤ 1000000) (hseen : q.seen.length ≤ 8000000) (hbef : ∀ a ∈ l2, a.due ≤ clock ∧ a.no < nx) (ans : List Nat) (out : List Am) (hout : l2.length + out.length ≤ 400) (hnx : nx + out.length ≤ 900000) (W : World) (hK : KIs W p C s m x0 q nodes l nx clock)
    (HH : ∀ w, NdAt w (p (7 + pk.m.to)) N s pk.m.to m x0 n → Calls Tryz.prog 68 #[.pointer (some ⟨N, 0, none⟩), mgv pk.m] w fun e w' => HearPost w (p (7 + pk.m.to)) N s pk.m.to m x0 n' ans out e w') :
    Calls Tryz.prog 32 #[.pointer (some ⟨C, 0, none⟩), spv y] W fun e W' => e = .returned (.tuple #[]) ∧ ∃ p' q' L al, KIs W' p' C s m x0 q' (nodes.set pk.m.to n') (l2 ++ sentT clock nx L) (nx + L.length) clock ∧ Step (uni p) W W' (uni p') ∧ q'.told = q.told ++ al.map (Td.mk clock) ∧ AnsR x0 al ans ∧ al.length ≤ 1 ∧ q'.seen.length ≤ q.seen.length + 8 ∧ q'.asked.length = q.asked.length ∧ L.map absM = out ∧ (∀ m ∈ L, MgOk m) := by
  obtain ⟨i1, hi1, hy0, hy1, hy2⟩ := info_parts Tryz.infoSe
  have hCl := hK.clt
  obtain ⟨nds, A, ac, U, uc, G, K, kc, asked, T, tc, told, Z, zc, seen⟩ := q
  simp only [] at hN htold hseen
  obtain ⟨hil, hie⟩ := List.getElem?_eq_some_iff.1 hN
  obtain ⟨ga, rfl, _, hga, _⟩ := hK.hA.form (show 0 < nds.length by omega)
  have HNx := Lib.hid (fun w (hb : Below W.heap.size W w) => pnext_is (p 3) G nx l hl0 hlen pk l2 hpop w (hK.below hb).hP ((hK.below hb).pts.lt 3))
  have HK := Lib.hid hK
  have hupn : (nodes.map (·.up))[pk.m.to]? = some true := by rw [List.getElem?_map, hi, ← hup]; rfl
  have HUp := Lib.hid (fun w (h : KIs w p C s m x0 ⟨nds, some ⟨ga, 0, none⟩, ac, U, uc, G, K, kc, asked, T, tc, told, Z, zc, seen⟩ nodes l2 nx clock) => up_any C _ _ _ _ _ _ U uc 0 (nodes.map (fun z : Mdl.Nm => z.up)) pk.m.to true hupn w h.hC h.hU)
  have HND := Lib.hid (fun w (h : KIs w p C s m x0 ⟨nds, some ⟨ga, 0, none⟩, ac, U, uc, G, K, kc, asked, T, tc, told, Z, zc, seen⟩ nodes l2 nx clock) => h.nd pk.m.to n N hi hN)
  have c2 : ∀ w : World, Below W.heap.size W w → w.cell? ⟨C, 2, none⟩ = some (.pointer (some ⟨G, 0, none⟩)) := fun w hb => cob ((hb.block C hK.clt).trans hK.hC) 2 rfl
  have d2 : ((pk.m.to : Nat) : Int) < ((nds.length : Nat) : Int) := by omega
  have HI := Lib.hid hi
  have HUP := Lib.hid hup'
  have HNn := Lib.hid hN
  have HIE := Lib.hid (show nds[pk.m.to] = N from hie)
  have HBe := Lib.hid hbef
  have HHx := Lib.hid HH
  have HOut := Lib.hid hout
  have HNX := Lib.hid hnx
  clear hK hupn hi hup hpop hl0 hlen hup' hN hie hbef HH hout hnx
  obtain ⟨⟨a0, a1, a2, a3, a4, ⟨a5, a6, a7, a8, a9⟩⟩, due, no⟩ := pk
  unfold mgv mcells at HNx HHx
  simp only [] at HNx HUp HND HHx d2 hil HIE
  obtain ⟨kd, nd, j, full, ⟨cl0, sq, kind, row, col, tt, at_, value, expect, has⟩⟩ := y
  obtain ⟨y, hy⟩ : ∃ y : Sp, y = ⟨kd, nd, j, full, ⟨cl0, sq, kind, row, col, tt, at_, value, expect, has⟩⟩ := ⟨_, rfl⟩
  have HY := Lib.hid hy
  clear hy
  unfold spv spcells cmcells
  simp only [List.cons_append, List.nil_append]
  go_enter Tryz.func32, Tryz.ntmps32
  go_upto_region 1 with (fail)
  generalize hw1 : World.alloc W _ = w1
  have hB := named_new hw1.symm
  have hb1 := named_below hw1.symm
  have hz1 : W.heap.size < w1.heap.size := by rw [named_size hw1.symm]; omega
  clear hw1
  obtain ⟨V, hV⟩ : ∃ V, w1.heap[W.heap.size]? = some V := ⟨_, hB⟩
  have x0 : ∀ w : World, w.heap[W.heap.size]? = some V → w.cell? ⟨W.heap.size, 0, none⟩ = some (.int .i64 kd) := fun w hw => cob (hw.trans (hV.symm.trans hB)) 0 rfl
  have x1 : ∀ w : World, w.heap[W.heap.size]? = some V → w.cell? ⟨W.heap.size, 1, none⟩ = some (.int .i64 nd) := fun w hw => cob (hw.trans (hV.symm.trans hB)) 1 rfl
  have x2 : ∀ w : World, w.heap[W.heap.size]? = some V → w.cell? ⟨W.heap.size, 2, none⟩ = some (.int .i64 j) := fun w hw => cob (hw.trans (hV.symm.trans hB)) 2 rfl
  have x3 : ∀ w : World, w.heap[W.heap.size]? = some V → w.cell? ⟨W.heap.size, 3, none⟩ = some (.int .i64 0) := fun w hw => cob (hw.trans (hV.symm.trans hB)) 3 rfl
  have x4 : ∀ w : World, w.heap[W.heap.size]? = some V → w.cell? ⟨W.heap.size, 4, none⟩ = some (.bool full) := fun w hw => cob (hw.trans (hV.symm.trans hB)) 4 rfl
  have x5 : ∀ w : World, w.heap[W.heap.size]? = some V → w.cell? ⟨W.heap.size, 5, none⟩ = some (.slice none 0 0) := fun w hw => cob (hw.trans (hV.symm.trans hB)) 5 rfl
  have x6 : ∀ w : World, w.heap[W.heap.size]? = some V → w.cell? ⟨W.heap.size, 6, none⟩ = some (.int .i64 cl0) := fun w hw => cob (hw.trans (hV.symm.trans hB)) 6 rfl
  have x7 : ∀ w : World, w.heap[W.heap.size]? = some V → w.cell? ⟨W.heap.size, 7, none⟩ = some (.int .i64 sq) := fun w hw => cob (hw.trans (hV.symm.trans hB)) 7 rfl
  have x8 : ∀ w : World, w.heap[W.heap.size]? = some V → w.cell? ⟨W.heap.size, 8, none⟩ = some (.int .i64 kind) := fun w hw => cob (hw.trans (hV.symm.trans hB)) 8 rfl
  have x9 : ∀ w : World, w.heap[W.heap.size]? = some V → w.cell? ⟨W.heap.size, 9, none⟩ = some (.string row) := fun w hw => cob (hw.trans (hV.symm.trans hB)) 9 rfl
  have x10 : ∀ w : World, w.heap[W.heap.size]? = some V → w.cell? ⟨W.heap.size, 10, none⟩ = some (.string col) := fun w hw => cob (hw.trans (hV.symm.trans hB)) 10 rfl
  have x11 : ∀ w : World, w.heap[W.heap.size]? = some V → w.cell? ⟨W.heap.size, 11, none⟩ = some (.string tt) := fun w hw => cob (hw.trans (hV.symm.trans hB)) 11 rfl
  have x12 : ∀ w : World, w.heap[W.heap.size]? = some V → w.cell? ⟨W.heap.size, 12, none⟩ = some (.int .i64 at_) := fun w hw => cob (hw.trans (hV.symm.trans hB)) 12 rfl
  have x13 : ∀ w : World, w.heap[W.heap.size]? = some V → w.cell? ⟨W.heap.size, 13, none⟩ = some (.string value) := fun w hw => cob (hw.trans (hV.symm.trans hB)) 13 rfl
  have x14 : ∀ w : World, w.heap[W.heap.size]? = some V → w.cell? ⟨W.heap.size, 14, none⟩ = some (.string expect) := fun w hw => cob (hw.trans (hV.symm.trans hB)) 14 rfl
  have x15 : ∀ w : World, w.heap[W.heap.size]? = some V → w.cell? ⟨W.heap.size, 15, none⟩ = some (.bool has) := fun w hw => cob (hw.trans (hV.symm.trans hB)) 15 rfl
  have Hx0 := Lib.hid x0
  have Hx1 := Lib.hid x1
  have Hx2 := Lib.hid x2
  have Hx3 := Lib.hid x3
  have Hx4 := Lib.hid x4
  have Hx5 := Lib.hid x5
  have Hx6 := Lib.hid x6
  have Hx7 := Lib.hid x7
  have Hx8 := Lib.hid x8
  have Hx9 := Lib.hid x9
  have Hx10 := Lib.hid x10
  have Hx11 := Lib.hid x11
  have Hx12 := Lib.hid x12
  have Hx13 := Lib.hid x13
  have Hx14 := Lib.hid x14
  have Hx15 := Lib.hid x15
  clear hB x0 x1 x2 x3 x4 x5 x6 x7 x8 x9 x10 x11 x12 x13 x14 x15
  have g2 := c2 w1 hb1
  have HN1 := Lib.hid (HNx.out w1 hb1)
  have HB1 := Lib.hid hb1
  have hnW : ∀ a, ¬ p a W.heap.size := fun a e => absurd (HK.out.pts.lt a _ e) (Nat.lt_irrefl _)
  have HnW := Lib.hid hnW
  clear c2 hb1 hnW
  go_wp2_with fail
  refine HN1.out.mono ?_
  rintro e w2 ⟨rfl, hP2, hT2⟩
  have HK2 := Lib.hid (show KIs w2 p C s m x0 ⟨nds, some ⟨ga, 0, none⟩, ac, U, uc, G, K, kc, asked, T, tc, told, Z, zc, seen⟩ nodes l2 nx clock from (HK.out.below HB1.out).pool0 hT2 hP2)
  have hV2 := (hT2.block W.heap.size hz1 (HnW.out 3)).trans hV
  have hz2 := hT2.size
  have HT2 := Lib.hid hT2
  clear hP2 hT2 hV g2
  go_wp2_with fail
  generalize hw3 : World.alloc w2 _ = w3
  have hM := named_new hw3.symm
  have hb3 := named_below hw3.symm
  have hz3 : w2.heap.size < w3.heap.size := by rw [named_size hw3.symm]; omega
  clear hw3
  obtain ⟨M, hM3⟩ : ∃ M, w3.heap[w2.heap.size]? = some M := ⟨_, hM⟩
  have m0 : ∀ w : World, w.heap[w2.heap.size]? = some M → w.cell? ⟨w2.heap.size, 0, none⟩ = some (.int .i64 (a0 : Int)) := fun w hw => cob (hw.trans (hM3.symm.trans hM)) 0 rfl
  have m1 : ∀ w : World, w.heap[w2.heap.size]? = some M → w.cell? ⟨w2.heap.size, 1, none⟩ = some (.int .i64 (a1 : Int)) := fun w hw => cob (hw.trans (hM3.symm.trans hM)) 1 rfl
  have m2 : ∀ w : World, w.heap[w2.heap.size]? = some M → w.cell? ⟨w2.heap.size, 2, none⟩ = some (.int .i64 (a2 : Int)) := fun w hw => cob (hw.trans (hM3.symm.trans hM)) 2 rfl
  have m3 : ∀ w : World, w.heap[w2.heap.size]? = some M → w.cell? ⟨w2.heap.size, 3, none⟩ = some (.int .i64 (a3 : Int)) := fun w hw => cob (hw.trans (hM3.symm.trans hM)) 3 rfl
  have m4 : ∀ w : World, w.heap[w2.heap.size]? = some M → w.cell? ⟨w2.heap.size, 4, none⟩ = some (.int .i64 (a4 : Int)) := fun w hw => cob (hw.trans (hM3.symm.trans hM)) 4 rfl
  have m5 : ∀ w : World, w.heap[w2.heap.size]? = some M → w.cell? ⟨w2.heap.size, 5, none⟩ = some (.int .i64 (a5 : Int)) := fun w hw => cob (hw.trans (hM3.symm.trans hM)) 5 rfl
  have m6 : ∀ w : World, w.heap[w2.heap.size]? = some M → w.cell? ⟨w2.heap.size, 6, none⟩ = some (.int .i64 (a6 : Int)) := fun w hw => cob (hw.trans (hM3.symm.trans hM)) 6 rfl
  have m7 : ∀ w : World, w.heap[w2.heap.size]? = some M → w.cell? ⟨w2.heap.size, 7, none⟩ = some (.int .i64 (a7 : Int)) := fun w hw => cob (hw.trans (hM3.symm.trans hM)) 7 rfl
  have m8 : ∀ w : World, w.heap[w2.heap.size]? = some M → w.cell? ⟨w2.heap.size, 8, none⟩ = some (.bool a8) := fun w hw => cob (hw.trans (hM3.symm.trans hM)) 8 rfl
  have m9 : ∀ w : World, w.heap[w2.heap.size]? = some M → w.cell? ⟨w2.heap.size, 9, none⟩ = some (.string a9) := fun w hw => cob (hw.trans (hM3.symm.trans hM)) 9 rfl
  have m10 : ∀ w : World, w.heap[w2.heap.size]? = some M → w.cell? ⟨w2.heap.size, 10, none⟩ = some (.slice none 0 0) := fun w hw => cob (hw.trans (hM3.symm.trans hM)) 10 rfl
  have Hm0 := Lib.hid m0
  have Hm1 := Lib.hid m1
  have Hm2 := Lib.hid m2
  have Hm3 := Lib.hid m3
  have Hm4 := Lib.hid m4
  have Hm5 := Lib.hid m5
  have Hm6 := Lib.hid m6
  have Hm7 := Lib.hid m7
  have Hm8 := Lib.hid m8
  have Hm9 := Lib.hid m9
  have Hm10 := Lib.hid m10
  clear hM m0 m1 m2 m3 m4 m5 m6 m7 m8 m9 m10
  have hV3 := (hb3.block W.heap.size (by omega)).trans hV2
  have HK3 := Lib.hid (HK2.out.below hb3)
  have HU3 := Lib.hid (HUp.out w3 HK3.out)
  have z2 := Hm2.out w3 hM3
  have HB3 := Lib.hid hb3
  clear hb3 hV2
  go_wp2_with (first | (go_at_call 14; (with_reducible refine HU3.out.mono ?_); rintro e w3' ⟨rfl, rfl⟩))
  have k0 : w3.cell? ⟨C, 0, none⟩ = some (.slice (some ⟨ga, 0, none⟩) nds.length ac) := cob HK3.out.hC 0 rfl
  have ka := HK3.out.hA.cell ncell_len a2 0 hil (.pointer (some ⟨N, 0, none⟩)) (by rw [HIE.out]; rfl)
  simp only [Nat.mul_one, Nat.add_zero] at ka
  have HVo3 := Lib.hid (fun nn => ndvotes s x0 a2 m n (w3.drewN nn) (p (7 + a2)) N (HND.out (w3.drewN nn) (HK3.out.frame (Nat.le_refl _) fun _ _ => rfl)))
  have hzW3 : W.heap.size < w3.heap.size := by omega
  go_quiet (fail)
  go_wp2_with fail
  refine (HVo3.out _).mono ?_
  rintro e w4 ⟨L0, A0, q0, rfl, hO0, hl0, hb4'⟩
  have hb4 : Below w3.heap.size w3 w4 := below_undrewN hb4'
  have HK4 := Lib.hid (HK3.out.below hb4)
  have hz4 := hb4.size
  have hV4 := (hb4.block W.heap.size hzW3).trans hV3
  have hM4 := (hb4.block w2.heap.size hz3).trans hM3
  have HHe := Lib.hid (HHx.out w4 (HND.out w4 HK4.out))
  have HO0 := Lib.hid (show OwnT vcells 62 5 w4 w3.heap.size A0 q0 L0 from hO0)
  have z0 := Hm0.out w4 hM4
  have z1 := Hm1.out w4 hM4
  have z2 := Hm2.out w4 hM4
  have z3 := Hm3.out w4 hM4
  have z4 := Hm4.out w4 hM4
  have z5 := Hm5.out w4 hM4
  have z6 := Hm6.out w4 hM4
  have z7 := Hm7.out w4 hM4
  have z8 := Hm8.out w4 hM4
  have z9 := Hm9.out w4 hM4
  have z10 := Hm10.out w4 hM4
  have HB4 := Lib.hid hb4
  clear hb4 hb4' hO0 hV3 hM3 k0 ka z2
  have z2 := Hm2.out w4 hM4
  go_wp2_with fail
  refine HHe.out.mono ?_
  rintro e w5 ⟨al, B, bc, L, A9, q9, S1, rfl, hal1, hnil, hOal, hOL, hans, hLm, hLok, hnd5, hst5⟩
  have hz5 := hst5.t.size
  have nV : ¬ p (7 + a2) W.heap.size := HnW.out _
  have nM : ¬ p (7 + a2) w2.heap.size := fun e => by have := HK.out.pts.lt _ _ e; omega
  have hV5 := (hst5.t.block W.heap.size (by omega) nV).trans hV4
  have hM5 := (hst5.t.block w2.heap.size (by omega) nM).trans hM4
  have HK5 := Lib.hid (HK4.out.node (n' := n') HI.out HNn.out HUP.out hst5 hnd5)
  have HVo5 := Lib.hid (ndvotes s x0 a2 m n' w5 S1 N hnd5)
  have HO05 := Lib.hid (show OwnT vcells 62 5 w5 w3.heap.size A0 q0 L0 from HO0.out.of_block fun k hk => hst5.t.block k (HO0.out.lt k hk).2 (fun e => by
    have h1 := (HO0.out.lt k hk).1
    have h2 := HK.out.pts.lt _ k e
    omega))
  have HOal := Lib.hid hOal
  have HOL := Lib.hid hOL
  have HLm := Lib.hid hLm
  have HLok := Lib.hid hLok
  have HAns := Lib.hid hans
  have HNil := Lib.hid hnil
  have HAl1 := Lib.hid hal1
  have HS5 := Lib.hid hst5
  have hLlen : L.length = out.length := by rw [← hLm, List.length_map]
  have HLlen := Lib.hid hLlen
  clear hOal hOL hLm hLok hans hnil hal1 hst5 hnd5 hV4 hM4 z0 z1 z2 z3 z4 z5 z6 z7 z8 z9 z10 hLlen
  go_wp2_with fail
  refine HVo5.out.mono ?_
  rintro e w6 ⟨L1, A1, q1, rfl, hO1, hl1, hb6⟩
  have hz6 := hb6.size
  have HK6 := Lib.hid (HK5.out.below hb6)
  have hV6 := (hb6.block W.heap.size (by omega)).trans hV5
  have hM6 := (hb6.block w2.heap.size (by omega)).trans hM5
  have HO06 := Lib.hid (HO05.out.below hb6 (Nat.le_refl _))
  have HOal6 := Lib.hid (HOal.out.below hb6 (Nat.le_refl _))
  have HOL6 := Lib.hid (HOL.out.below hb6 (Nat.le_refl _))
  have HO1 := Lib.hid (show OwnT vcells 62 5 w6 w5.heap.size A1 q1 L1 from hO1)
  have HV6 := Lib.hid hV6
  have HM6 := Lib.hid hM6
  have HB6 := Lib.hid hb6
  have hC6 := HK6.out.hC
  unfold kcells at hC6
  simp only [] at hC6
  have HC6 := Lib.hid hC6
  have hZ6 := HK6.out.hZ
  simp only [] at hZ6
  have HZ6 := Lib.hid hZ6
  have hCW : C < w3.heap.size := by have := HK3.out.clt; omega
  have hZl : ∀ k, blk Z = some k → k < W.heap.size := fun k hk => HK.out.pts.lt 6 k (HK.out.sZ k hk)
  have hZC : blk Z ≠ some C := fun e => HK.out.ne0 (i := 6) (by omega) (HK.out.sZ C e)
  have HZl := Lib.hid hZl
  have HZC := Lib.hid hZC
  clear hO1 hb6 hV5 hM5 hV6 hM6 hC6 hZ6 hZl hZC
  go_wp2
  go_loopw [50] (fun i wr => ∃ (k : Nat) (Z' : Option Addr) (zc' : Nat) (seen' : List (Nat × Vt)), k ≤ L1.length ∧ i = .int .i64 k ∧ seen'.length ≤ seen.length + k ∧ Hid (wr.heap[C]? = some (.cells #[.slice (some ⟨ga, 0, none⟩) nds.length ac, .slice U ((nodes.set a2 n').map (·.up)).length uc, .pointer (some ⟨G, 0, none⟩), .int .i64 (clock : Int), .slice K asked.length kc, .slice T told.length tc, .slice Z' seen'.length zc'] 88)) ∧ Hid (OwnT secells 64 6 wr 0 Z' zc' seen') ∧ Hid (∀ k, blk Z' = some k → blk Z = some k ∨ w6.heap.size ≤ k) ∧ Hid (Turned (fun k => k = C ∨ blk Z = some k) w6 wr)) (fun i _ => L1.length - (intOf i).toNat)
  case atStart => exact ⟨0, Z, zc, seen, Nat.zero_le _, rfl, Nat.le_refl _, HC6, HZ6, Lib.hid (fun k hk => .inl hk), Lib.hid (Turned.refl _ _)⟩
  case round =>
    obtain ⟨k, Z', zc', seen', hk, rfl, hsl, HCr, HZr, HZb, HTr⟩ := hrel
    have hzr := HTr.out.size
    have hnT : ∀ b, W.heap.size ≤ b → b ≠ C → ¬ (b = C ∨ blk Z = some b) := fun b hb hbC e => by
      rcases e with e | e
      · exact hbC e
      · have := HZl.out b e; omega
    have hVr := (HTr.out.block W.heap.size (by omega) (hnT _ (Nat.le_refl _) (by omega))).trans HV6.out
    have hMr := (HTr.out.block w2.heap.size (by omega) (hnT _ (by omega) (by omega))).trans HM6.out
    have hO0r : OwnT vcells 62 5 wr w3.heap.size A0 q0 L0 := HO06.out.of_block fun b hb => HTr.out.block b (HO06.out.lt b hb).2 (hnT b (by have := (HO06.out.lt b hb).1; omega) (by have := (HO06.out.lt b hb).1; omega))
    have hO1r : OwnT vcells 62 5 wr w5.heap.size A1 q1 L1 := HO1.out.of_block fun b hb => HTr.out.block b (HO1.out.lt b hb).2 (hnT b (by have := (HO1.out.lt b hb).1; omega) (by have := (HO1.out.lt b hb).1; omega))
    by_cases hkn : k < L1.length
    · obtain ⟨g1, rfl, _, hg1, _⟩ := hO1r.form (by omega)
      obtain ⟨v, hv⟩ : ∃ v, v = L1[k] := ⟨_, rfl⟩
      have d0 := hO1r.cell vcells_len k 0 hkn (.int .i64 (v.slot : Int)) (by rw [hv]; rfl)
      have d1 := hO1r.cell vcells_len k 1 hkn (.int .i64 (v.ballot : Int)) (by rw [hv]; rfl)
      have d2 := hO1r.cell vcells_len k 2 hkn (.int .i64 (v.origin : Int)) (by rw [hv]; rfl)
      have d3 := hO1r.cell vcells_len k 3 hkn (.bool v.full) (by rw [hv]; rfl)
      have d4 := hO1r.cell vcells_len k 4 hkn (.string v.bytes) (by rw [hv]; rfl)
      simp only [Nat.add_zero] at d0
      have dk : ((k : Nat) : Int) < ((L1.length : Nat) : Int) := by omega
      have HCo := Lib.hid (fun w (hb : Below wr.heap.size wr w) => containsv_any L0 v A0 q0 w3.heap.size w (hO0r.below hb (Nat.le_refl _)) (by omega))
      unfold vtv at HCo
      have HVr := Lib.hid hVr
      have HMr := Lib.hid hMr
      clear hO0r hO1r hv hVr hMr
      go_wp2_with fail
      generalize hw7 : World.alloc wr _ = w7
      have hN7 := named_new hw7.symm
      have hb7 := named_below hw7.symm
      have hz7 : wr.heap.size < w7.heap.size := by rw [named_size hw7.symm]; omega
      clear hw7
      have y0 : w7.cell? ⟨wr.heap.size, 0, none⟩ = some (.int .i64 (v.slot : Int)) := cob hN7 0 rfl
      have y1 : w7.cell? ⟨wr.heap.size, 1, none⟩ = some (.int .i64 (v.ballot : Int)) := cob hN7 1 rfl
      have y2 : w7.cell? ⟨wr.heap.size, 2, none⟩ = some (.int .i64 (v.origin : Int)) := cob hN7 2 rfl
      have y3 : w7.cell? ⟨wr.heap.size, 3, none⟩ = some (.bool v.full) := cob hN7 3 rfl
      have y4 : w7.cell? ⟨wr.heap.size, 4, none⟩ = some (.string v.bytes) := cob hN7 4 rfl
      have HN7 := Lib.hid hN7
      have HB7 := Lib.hid hb7
      have HCc := Lib.hid (HCo.out w7 hb7)
      clear hN7 hb7 d0 d1 d2 d3 d4
      refine HCc.out.mono ?_
      rintro e w8 ⟨nb, rfl, hb8⟩
      have HB8 := Lib.hid (HB7.out.trans (hb8.mono (Nat.le_of_lt hz7)))
      have hz8 := hb8.size
      have hN8 := (hb8.block wr.heap.size hz7).trans HN7.out
      clear hb8 y0 y1 y2 y3 y4
      cases nb with
      | true =>
        go_wp2
        go_roundw
        case rel => exact ⟨k + 1, Z', zc', seen', by omega, by go_num, by omega, Lib.hid ((HB8.out.block C (by omega)).trans HCr.out), Lib.hid (HZr.out.below HB8.out (Nat.le_refl _)), HZb, Lib.hid (HTr.out.below HB8.out hzr)⟩
        case measure => simp [intOf]; omega
      | false =>
        have hC8 := (HB8.out.block C (by omega)).trans HCr.out
        have hZ8 : OwnT secells 64 6 w8 0 Z' zc' seen' := HZr.out.below HB8.out (Nat.le_refl _)
        have hZ'C : blk Z' ≠ some C := fun e => by
          rcases HZb.out C e with h | h
          · exact HZC.out h
          · omega
        have hCl8 : C < w8.heap.size := by have := HB8.out.size; omega
        have hMx := (HB8.out.block w2.heap.size (by omega)).trans HMr.out
        have c6 : w8.cell? ⟨C, 6, none⟩ = some (.slice Z' seen'.length zc') := cob hC8 6 rfl
        have f6 : w8.frozen? ⟨C, 6, none⟩ = false := by simp [World.frozen?, hC8]
        have m2 := Hm2.out w8 hMx
        have y0 : w8.cell? ⟨wr.heap.size, 0, none⟩ = some (.int .i64 (v.slot : Int)) := cob hN8 0 rfl
        have y1 : w8.cell? ⟨wr.heap.size, 1, none⟩ = some (.int .i64 (v.ballot : Int)) := cob hN8 1 rfl
        have y2 : w8.cell? ⟨wr.heap.size, 2, none⟩ = some (.int .i64 (v.origin : Int)) := cob hN8 2 rfl
        have y3 : w8.cell? ⟨wr.heap.size, 3, none⟩ = some (.bool v.full) := cob hN8 3 rfl
        have y4 : w8.cell? ⟨wr.heap.size, 4, none⟩ = some (.string v.bytes) := cob hN8 4 rfl
        have HT := Lib.hid (fun (w' : World) (h : w'.heap[C]? = w8.heap[C]?) => (⟨cob (h.trans hC8) 6 rfl, by simp [World.frozen?, h.trans hC8]⟩ : w'.cell? ⟨C, 6, none⟩ = some (.slice Z' seen'.length zc') ∧ w'.frozen? ⟨C, 6, none⟩ = false))
        have HC8 := Lib.hid hC8
        have HZ8 := Lib.hid hZ8
        have ca6 := fun o => (HT.out (w8.alloc o).drew (heap_alloc_old w8 o hCl8)).1
        have caf := fun o => (HT.out (w8.alloc o).drew (heap_alloc_old w8 o hCl8)).2
        clear hC8 hN8 hMx
        go_wp2
        go_region_law
          (refine step_append_st secells _ secells_one (by rfl) _ _ _ (by rfl) 0 64 i1 _ 6 56 secells_len (by decide) Tryz.underlying57 hi1 hy0 hy1 hy2 (by rfl) _ _ seen' (by rfl) ((hZ8.alloc _).drew) w8.heap.size _ (a2, v) (0, 0) _ (by rfl) (heap_alloc_new w8 _) (by unfold maxLen; omega) (by omega) (Nat.zero_le _) ?_; intro X2 B4 d4 w9 hX2 ho9 hb9 hg9 ha9; have HS4 := HT.out w9 ((hg9.block C (by simp; omega) (fun e => hZ'C e.symm)).trans (heap_alloc_old w8 _ (by omega))); have HS5 := HS4.1; have HS6 := HS4.2)
        all_goals
          have hXl : X2.length = seen'.length + 1 := by rw [hX2.out]; simp
          have hC9 := ((hg9.block C (by simp; omega) (fun e => hZ'C e.symm)).trans (heap_alloc_old w8 _ hCl8)).trans HC8.out
          have hC10 := heap_setCell_same w9 C 6 _ _ (.slice B4 X2.length d4) hC9
          have hBC : ∀ b, blk B4 = some b → b ≠ C := by
            intro b hb e
            rcases ha9 with h | h
            · rw [h] at hb; exact hZ'C (e ▸ hb)
            · rw [h] at hb
              injection hb with hb
              simp at hb; omega
          have hO10 : OwnT secells 64 6 (w9.setCell ⟨C, 6, none⟩ (.slice B4 X2.length d4)) 0 B4 d4 X2 := ho9.of_block fun b hb => heap_setCell_other _ _ _ _ (hBC b hb)
          have hbb : ∀ b, blk B4 = some b → blk Z = some b ∨ w6.heap.size ≤ b := by
            intro b hb
            rcases ha9 with h | h
            · exact HZb.out b (h ▸ hb)
            · rw [h] at hb
              injection hb with hb
              simp at hb
              exact .inr (by have := HB8.out.size; omega)
          have t10 : Turned (fun b => b = C ∨ blk Z = some b) w6 (w9.setCell ⟨C, 6, none⟩ (.slice B4 X2.length d4)) :=
            Turned.setCell (S := fun b => b = C ∨ blk Z = some b) (((((HTr.out.below HB8.out hzr).alloc _).drew).grown hg9 (fun b hb => (HZb.out b hb).imp .inr id))) (p := ⟨C, 6, none⟩) (.inl (.inl rfl)) _
          have HC10 := Lib.hid hC10
          have HO10 := Lib.hid hO10
          have HBB := Lib.hid hbb
          have HT10 := Lib.hid t10
          have HXl := Lib.hid hXl
          clear hXl hC9 hC10 hO10 hbb t10 hBC HS4 HS5 HS6 ha9 hg9 hb9 ho9
          go_wp2
          go_roundw
          case rel => exact ⟨k + 1, B4, d4, X2, by omega, by go_num, by have := HXl.out; omega, HC10, HO10, HBB, HT10⟩
          case measure => simp [intOf]; omega
    · obtain rfl : k = L1.length := by omega
      have HVr := Lib.hid hVr
      clear hO0r hO1r hVr hMr
      have HK7 := Lib.hid (HK6.out.seen (Z' := Z') (zc' := zc') (seen' := seen') (HTr.out.wide fun b hb _ => by
        rcases hb with rfl | hb
        · exact .inl HK6.out.c0
        · exact .inr (HK6.out.sZ b hb)) HCr.out HZr.out (fun b hb => (HZb.out b hb).imp (HK6.out.sZ b) id))
      have hOar : OwnT acells 45 7 wr w4.heap.size B bc al := HOal6.out.of_block fun b hb => HTr.out.block b (HOal6.out.lt b hb).2 (hnT b (by have := (HOal6.out.lt b hb).1; omega) (by have := (HOal6.out.lt b hb).1; omega))
      have hOLr : OwnT mcells 133 11 wr w4.heap.size A9 q9 L := HOL6.out.of_block fun b hb => HTr.out.block b (HOL6.out.lt b hb).2 (hnT b (by have := (HOL6.out.lt b hb).1; omega) (by have := (HOL6.out.lt b hb).1; omega))
      have HNo := Lib.hid (note_any C _ _ _ _ _ clock T tc 0 told htold B bc w4.heap.size al HAl1.out HNil.out wr HK7.out.hC HK7.out.hT hOar (Nat.zero_le _))
      have HOLr := Lib.hid hOLr
      have hTC : blk T ≠ some C := fun e => HK.out.ne0 (i := 5) (by omega) (HK.out.sT C e)
      have hTl : ∀ b, blk T = some b → b < W.heap.size := fun b hb => HK.out.pts.lt 5 b (HK.out.sT b hb)
      have HTl := Lib.hid hTl
      clear hOar hOLr hnT hTC hTl
      go_wp2_with fail
      refine HNo.out.mono ?_
      rintro e w9 ⟨rfl, A10, tc10, hC9, hO9, ht9, hb9⟩
      have hz9 := ht9.size
      have hnT9 : ∀ b, W.heap.size ≤ b → b ≠ C → ¬ (b = C ∨ blk T = some b) := fun b hb hbC e => by
        rcases e with e | e
        · exact hbC e
        · have := HTl.out b e; omega
      have hV9 := (ht9.block W.heap.size (by omega) (hnT9 _ (Nat.le_refl _) (by omega))).trans HVr.out
      have HK9 := Lib.hid (HK7.out.told (T' := A10) (tc' := tc10) (told' := told ++ al.map (Td.mk clock)) (ht9.wide fun b hb _ => by
        rcases hb with rfl | hb
        · exact .inl HK7.out.c0
        · exact .inr (HK7.out.sT b hb)) hC9 hO9 (fun b hb => by
        rcases hb9 with h | ⟨b2, h1, h2⟩
        · exact .inl (HK7.out.sT b (h ▸ hb))
        · rw [hb] at h1
          injection h1 with h1
          exact .inr (by omega)))
      have hOL9 : OwnT mcells 133 11 w9 w4.heap.size A9 q9 L := HOLr.out.of_block fun b hb => ht9.block b (HOLr.out.lt b hb).2 (hnT9 b (by have := (HOLr.out.lt b hb).1; omega) (by have := (HOLr.out.lt b hb).1; omega))
      have hlo := HOut.out
      have hno := HNX.out
      have hLl := HLlen.out
      have HSe := Lib.hid (csend_any C _ _ _ _ _ clock hclock ⟨kd, nd, j, full, ⟨cl0, sq, kind, row, col, tt, at_, value, expect, has⟩⟩ _ G nx w4.heap.size l2 L A9 q9 (by omega) (by omega) HBe.out w9 HK9.out.hC HK9.out.hP (HK9.out.pts.lt 3) (HK9.out.ne0 (by omega)) hOL9 (fun b hb e => by
        have h1 := (hOL9.lt b hb).1
        rw [upd_other _ _ (by omega), upd_other _ _ (by omega), upd_other _ _ (by omega)] at e
        have h2 := HK.out.pts.lt 3 b e
        omega))
      unfold spv spcells cmcells at HSe
      simp only [List.cons_append, List.nil_append] at HSe
      have HT9 := Lib.hid ht9
      have HB9 := Lib.hid hb9
      have y0 := Hx0.out w9 hV9
      have y1 := Hx1.out w9 hV9
      have y2 := Hx2.out w9 hV9
      have y3 := Hx3.out w9 hV9
      have y4 := Hx4.out w9 hV9
      have y5 := Hx5.out w9 hV9
      have y6 := Hx6.out w9 hV9
      have y7 := Hx7.out w9 hV9
      have y8 := Hx8.out w9 hV9
      have y9 := Hx9.out w9 hV9
      have y10 := Hx10.out w9 hV9
      have y11 := Hx11.out w9 hV9
      have y12 := Hx12.out w9 hV9
      have y13 := Hx13.out w9 hV9
      have y14 := Hx14.out w9 hV9
      have y15 := Hx15.out w9 hV9
      clear hC9 hO9 ht9 hb9 hOL9 hV9 hnT9 hlo hno hLl
      go_wp2_with fail
      refine HSe.out.mono ?_
      rintro e w10 ⟨rfl, S3, hP10, hst10⟩
      go_wp2
      go_end0
      refine ⟨rfl, _, _, L, al, HK9.out.pool hst10 hP10, ?_, rfl, HAns.out, HAl1.out, ?_, rfl, HLm.out, HLok.out⟩
      · have s1 : Step (uni p) W w4 (uni p) := by
          have t1 : Turned (uni p) W w2 := (Turned.of_below HB1.out).trans (HT2.out.wide fun b hb _ => ⟨3, hb⟩)
          exact ⟨(t1.below HB3.out t1.size).below HB4.out (by have := t1.size; have := HB3.out.size; omega), fun b hb => .inl hb, HK4.out.pts.uni_lt⟩
        have s2 := s1.trans (HK4.out.pts.uni_step HS5.out)
        have s3 := s2.below HB6.out
        have s4 := s3.trans (HK6.out.uni_of (i := 6) (HTr.out.wide fun b hb _ => by
          rcases hb with rfl | hb
          · exact .inl HK6.out.c0
          · exact .inr (HK6.out.sZ b hb)) HK7.out.pts (fun b hb => (HZb.out b hb).imp (HK6.out.sZ b) id))
        have s5 := s4.trans (HK7.out.uni_of (i := 5) (HT9.out.wide fun b hb _ => by
          rcases hb with rfl | hb
          · exact .inl HK7.out.c0
          · exact .inr (HK7.out.sT b hb)) HK9.out.pts (fun b hb => by
          rcases HB9.out with h | ⟨b2, h1, h2⟩
          · exact .inl (HK7.out.sT b (h ▸ hb))
          · rw [hb] at h1
            injection h1 with h1
            exact .inr (by omega)))
        exact s5.trans (HK9.out.pts.uni_step hst10)
      · show seen'.length ≤ seen.length + 8
        omega
end Go.Proofs.YtoigogjmhkpdlaaGreat
