/- A part of the proof of WholeFew: the texts ScanLog, Log, Add, Promise. -/
import Derived.Test.YtoigogjmhkpdlaaGreatJ08
set_option maxHeartbeats 3200000
set_option maxRecDepth 100000
namespace Go.Proofs.YtoigogjmhkpdlaaGreat
open Go.RowKit
open Crc
theorem cell_obj {w : World} {a : Addr} {v : Value} (h : w.cell? a = some v) : ∃ (cs : Array Value) (t : TypeId) (fr : Nat × Nat) (i : Nat), w.heap[a.block]? = some (.cells cs t fr) ∧ cs[i]? = some v := by
  unfold World.cell? at h
  split at h
  · rename_i c t fr hb
    split at h
    · cases h
    · exact ⟨c, t, fr, a.off, hb, h⟩
  · cases h
theorem says_apart {W : World} {X p : Nat} {vs : List Vt} {M : Nat} (hX : W.heap[X]? = some (.cells #[.int .i64 (p : Int), .map (some M)] 109)) (hM : MapIs W (.int .i64) M (vs.map vkv)) {a : Addr} {v : Value} (h : W.cell? a = some v) (h1 : ∀ n, v ≠ .int .i64 n) (h2 : ∀ m, v ≠ .map m) : a.block ≠ X ∧ a.block ≠ M := by
  obtain ⟨cs, t, fr, i, hb, hi⟩ := cell_obj h
  constructor
  · intro e
    rw [e, hX] at hb
    injection hb with hb
    injection hb with hcs _ _
    subst hcs
    match i, hi with
    | 0, hi => simp at hi; exact h1 _ hi.symm
    | 1, hi => simp at hi; exact h2 _ hi.symm
    | i + 2, hi => simp at hi
  · intro e
    obtain ⟨es, clock, hm, _⟩ := hM
    rw [e, hm] at hb; cases hb
theorem logB_count (rs : List Rc) : rs.length ≤ (logB rs).length := by
  induction rs with
  | nil => simp
  | cons r rs ih => rw [logB_cons, List.length_append, frameN_length]; simp; omega
theorem wrap_id (n : Int) (h1 : -9223372036854775808 ≤ n) (h2 : n ≤ 9223372036854775807) : wrap64 n = n := by unfold wrap64; omega
theorem lt_two {n0 : Nat} {W : World} (h : n0 + 1 < W.heap.size) : Lt (fun q => q = n0 + 1 ∨ q = n0) W := by
  rintro q (h' | h') <;> omega
theorem not_two {n0 q : Nat} (h1 : q ≠ n0 + 1) (h2 : q ≠ n0) : ¬ (q = n0 + 1 ∨ q = n0) := by
  rintro (h' | h') <;> omega
theorem flat_logB (rs : List Rc) (k : Nat) (hk : k < rs.length) : (logB (rs.take (k + 1))).length = (logB (rs.take k)).length + (12 + (rcB rs[k]).length) := by
  rw [List.take_succ_eq_append_getElem hk, logB_snoc, List.length_append, frameN_length]
theorem logB_take_le (rs : List Rc) (k : Nat) : (logB (rs.take k)).length ≤ (logB rs).length := by
  have : logB rs = logB (rs.take k) ++ logB (rs.drop k) := by
    unfold logB; rw [← List.flatten_append, ← List.map_append, List.take_append_drop]
  rw [this, List.length_append]; omega
theorem lscan_any (rs : List Rc) (hok : LogOk rs) (A : Option Addr) (L : List Nat) (hL : Hid (L = logB rs)) (c : Nat) (hc : L.length ≤ c) (hcm : c ≤ 9223372036854775807) (hm : L.length ≤ 65536) (W : World) (hr : RdB W A L) :
    Calls Tryz.prog 48 #[.slice A L.length c] W fun e W' => ∃ (X : Nat) (S : Nat → Prop), e = .returned (.tuple #[.pointer (some ⟨X, 0, none⟩), .int .i64 (L.length : Int)]) ∧ SaysAt W' S X (say rs).1 (say rs).2 ∧ (∀ k, S k → W.heap.size ≤ k ∧ k < W'.heap.size) ∧ Below W.heap.size W W' := by
  have hmm := @run_makeMap Tryz.prog
  have hsc := scans_log rs (fun r hr => by have := (hok.mem r hr).1; omega)
  rw [← hL.out] at hsc
  have Hsc := Lib.hid hsc
  have Hb := Lib.hid (show Bytes L by rw [hL.out]; exact hok.bytes)
  have HR := Lib.hid hr
  clear hsc hr
  go_enter Tryz.func48, Tryz.ntmps48
  go_wp2_with fail
  have hB0 := ((Below.refl W.heap.size W).alloc (Nat.le_refl _) (.map #[] 0)).alloc (by simp) (.cells #[.int .i64 0, .map (some W.heap.size)] 109)
  obtain ⟨w0, hw0⟩ : ∃ w0, w0 = (W.alloc (.map #[] 0)).alloc (.cells #[.int .i64 0, .map (some W.heap.size)] 109) := ⟨_, rfl⟩
  rw [← hw0] at hB0 ⊢
  have hX0 := named_new hw0
  have hM0 : MapIs w0 (.int .i64) W.heap.size ((say ([] : List Rc)).2.map vkv) := (MapIs.made W (.int .i64)).of_block ((named_below hw0).block W.heap.size (by simp))
  have hsz0 := named_size hw0
  simp only [World.size_alloc] at hX0 hsz0
  clear hw0
  refine (scan_any A L c (rs.map rcB) [] Hsc.out Hb.out hc hcm (by omega) _ (HR.out.below hB0 (Nat.le_refl _))).mono ?_
  rintro e w1 ⟨xs, B, d, Hxs, rfl, hrx, hox, hb1⟩
  have hX1 := (hb1.block _ (by omega)).trans hX0
  have hM1 := hM0.of_block (hb1.block W.heap.size (by omega))
  have hlen : xs.length = rs.length := by have := congrArg List.length Hxs.out; simpa using this
  have Hx := Lib.hid (show ∀ k (h1 : k < xs.length) (h2 : k < rs.length), xs[k].2.2 = rcB rs[k] by
    intro k h1 h2
    have h3 := congrArg (fun l => l[k]?) Hxs.out
    simpa [h1, h2] using h3)
  have HRX := Lib.hid hrx
  have HOX := Lib.hid hox
  have hs1 := hb1.size
  have hLl : L.length = (logB rs).length := by rw [hL.out]
  obtain ⟨n0, hn0⟩ : ∃ n0, n0 = W.heap.size := ⟨_, rfl⟩
  have HB1 := Lib.hid (below_next (show Below W.heap.size W w0 from hB0) hb1)
  rw [← hn0] at hX1 hM1 hsz0 ⊢
  have HN0 := Lib.hid hn0
  have hrl : rs.length ≤ 65536 := by have := logB_count rs; omega
  have Hsz := Lib.hid (show n0 + 1 < w1.heap.size by omega)
  have HLl := Lib.hid hLl
  have hlen2 : xs.length ≤ rs.length ∧ rs.length ≤ xs.length := by omega
  clear hrx hox hb1 hX0 hM0 hB0 hn0 hLl hlen
  go_wp2
  go_loopw [7, 20] (fun n i wr => ∃ k, k ≤ rs.length ∧ i = .int .i64 (k : Nat) ∧ n = .int .i64 (((logB (rs.take k)).length : Nat) : Int) ∧ SaysAt wr (fun q => q = n0 + 1 ∨ q = n0) (n0 + 1) (say (rs.take k)).1 (say (rs.take k)).2 ∧ Turned (fun q => q = n0 + 1 ∨ q = n0) w1 wr) (fun _ i _ => rs.length - (intOf i).toNat)
  case atStart => exact ⟨0, Nat.zero_le _, rfl, rfl, ⟨n0, hX1, .inl rfl, .inr rfl, by omega, hM1⟩, Turned.refl _ _⟩
  case round =>
    obtain ⟨k, hk, rfl, rfl, hS, hT⟩ := hrel
    by_cases hkn : k < rs.length
    · have hkx : k < xs.length := by omega
      obtain ⟨ad, rfl, hcx⟩ := HRX.out (by omega)
      have hxk := hcx k hkx
      clear hcx
      have hap := says_apart hX1 hM1 hxk (by intro n; unfold slv; simp) (by intro m; unfold slv; simp)
      have hlt := lt_of_cell hxk
      have hxr : wr.cell? (ad.add k) = some (slv xs[k]) := (hT.cell hlt (by rintro (h | h) <;> omega)).trans hxk
      have hok1 := HOX.out xs[k] (List.getElem_mem _)
      have hLk := Hx.out k hkx hkn
      rcases hxe : xs[k] with ⟨A1, c1, L1⟩
      rw [hxe] at hok1 hLk hxr
      obtain ⟨hr1, _, hc1, hcm1⟩ := hok1
      simp only at hr1 hc1 hcm1 hLk
      unfold slv at hxr
      simp only at hxr
      have hrk := hok.split k hkn
      have hl1 := ok1_len hrk
      have hr2 : RdB wr A1 L1 := hr1.of_block (by
        intro q hq
        obtain ⟨a1, rfl, hca⟩ := hr1 (by rw [hLk]; exact hl1.2.2)
        have hc0 := hca 0 (by rw [hLk]; exact hl1.2.2)
        have hap1 := says_apart hX1 hM1 hc0 (by intro n; simp) (by intro m; simp)
        have hlt1 := lt_of_cell hc0
        rw [add_block] at hap1 hlt1
        have e : a1.block = q := by simpa [blk] using hq
        rw [e] at hap1 hlt1
        exact hT.block q hlt1 (by rintro (h | h) <;> omega))
      have Hr2 := Lib.hid hr2
      have HL1 := Lib.hid hLk
      have hl544 : L1.length ≤ 544 := by rw [hLk]; exact hl1.1
      have hst := Lib.hid (say_take hkn)
      have hfl := Lib.hid (flat_logB rs k hkn)
      have hle := logB_take_le rs (k + 1)
      have HBy := Lib.hid (show Bytes L1 by rw [hLk]; exact hl1.2.1)
      have Hap := Lib.hid (show ∀ q, blk A1 = some q → q < w1.heap.size ∧ q ≠ n0 + 1 ∧ q ≠ n0 by
        intro q hq
        obtain ⟨a1, rfl, hca⟩ := hr1 (by rw [hLk]; exact hl1.2.2)
        have hc0 := hca 0 (by rw [hLk]; exact hl1.2.2)
        have hap1 := says_apart hX1 hM1 hc0 (by intro n; simp) (by intro m; simp)
        have hlt1 := lt_of_cell hc0
        rw [add_block] at hap1 hlt1
        have e : a1.block = q := by simpa [blk] using hq
        rw [e] at hap1 hlt1
        exact ⟨hlt1, hap1⟩)
      have Hrk := Lib.hid hrk
      have hts := hT.size
      have HT := Lib.hid hT
      have HLt := Lib.hid (lt_two (W := wr) (Nat.lt_of_lt_of_le (show n0 + 1 < w1.heap.size by omega) hts))
      have hL1r : (rcB (rs[k]'hkn)).length = L1.length := by rw [HL1.out]
      rw [hL1r] at hfl
      obtain ⟨rk, hrkn⟩ : ∃ rk, rk = rs[k]'hkn := ⟨_, rfl⟩
      obtain ⟨st, hstn⟩ : ∃ st, st = say (rs.take k) := ⟨_, rfl⟩
      obtain ⟨nk, hnk⟩ : ∃ nk, nk = (logB (rs.take k)).length := ⟨_, rfl⟩
      obtain ⟨nk1, hnk1⟩ : ∃ nk, nk = (logB (rs.take (k + 1))).length := ⟨_, rfl⟩
      rw [← hrkn, ← hstn] at Hrk hst
      rw [← hrkn] at HL1
      rw [← hstn] at hS
      rw [← hnk] at hfl ⊢
      rw [← hnk1] at hfl hle
      have Hst := Lib.hid hstn
      have Hnk1 := Lib.hid hnk1
      clear hr1 hr2 hLk hrk hl1 hT hL1r hrkn hstn hnk hnk1 hX1 hM1
      go_wp2_with fail
      refine (take_any (fun q => q = n0 + 1 ∨ q = n0) (n0 + 1) st rk Hrk.out A1 L1 HL1 c1 hc1 hcm1 wr hS HLt.out Hr2.out).mono ?_
      rintro e w3 ⟨rfl, hS3, hT3⟩
      have hts3 := hT3.size
      have Hr3 := Lib.hid (Hr2.out.of_block (w' := w3) (fun q hq => hT3.block q (Nat.lt_of_lt_of_le (Hap.out q hq).1 hts) (not_two (Hap.out q hq).2.1 (Hap.out q hq).2.2)))
      have HT3 := Lib.hid (HT.out.trans hT3)
      clear hT3
      go_wp2_with fail
      refine (fput_any A1 L1 c1 HBy.out (by omega) _ Hr3.out).mono ?_
      rintro e w4 ⟨L4, A4, c4, H4, rfl, ho4, hc4, hb4⟩
      have hl4 : L4.length = 12 + L1.length := by rw [H4.out, frameN_length]
      have hfl2 : (nk : Int) + ((L4.length : Nat) : Int) = (nk1 : Int) := by have := hfl.out; omega
      have Hl4 := Lib.hid hl4
      have HT4 := Lib.hid (HT3.out.trans (Turned.of_below (S := fun q => q = n0 + 1 ∨ q = n0) hb4))
      have HS4 := Lib.hid (hS3.frame (fun q hq => hb4.block q (Nat.lt_of_lt_of_le (HLt.out q hq) hts3)))
      rw [← hst.out] at HS4
      have Hfl2 := Lib.hid hfl2
      clear hl4 hfl2
      go_wp2
      go_roundw
      case rel =>
        refine ⟨k + 1, by omega, by go_num, ?_, HS4.out, HT4.out⟩
        rw [← Hnk1.out]
        have e := Hfl2.out
        have hlt := hle
        have e2 := HLl.out
        refine congrArg (Value.int .i64) ?_
        rw [wrap_id _ (by omega) (by omega)]
        exact e
      case measure => simp [intOf]; omega
    · obtain rfl : k = rs.length := by omega
      rw [List.take_length] at hS ⊢
      go_wp2
      go_ret2
      refine ⟨n0 + 1, fun q => q = n0 + 1 ∨ q = n0, by rw [HLl.out]; rfl, hS, ?_, ?_⟩
      · have e1 := hT.size
        have e2 := HN0.out
        have e3 := Hsz.out
        rintro q (h | h)
        · subst h; exact ⟨by rw [e2]; omega, Nat.lt_of_lt_of_le e3 e1⟩
        · subst h; exact ⟨by rw [e2]; omega, Nat.lt_of_lt_of_le (Nat.lt_of_succ_lt e3) e1⟩
      · have hBT := HB1.out
        have e2 := HN0.out
        exact ⟨hT.os.trans hBT.os, hT.tape.trans hBT.tape, hT.output.trans hBT.output, Nat.le_trans hBT.size hT.size, fun q hq => (hT.block q (Nat.lt_of_lt_of_le hq hBT.size) (not_two (by rw [e2]; omega) (by rw [e2]; omega))).trans (hBT.block q hq)⟩
open Crc
def fileOf (rs : List Rc) : Option (List Nat × Nat) := if rs.isEmpty then none else some (logB rs, (logB rs).length)
theorem fileOf_cons {rs : List Rc} (h : rs ≠ []) : fileOf rs = some (logB rs, (logB rs).length) := by
  cases rs with
  | nil => exact absurd rfl h
  | cons => rfl
def LogAt (W : World) (S : Nat → Prop) (G D m : Nat) (rs : List Rc) : Prop :=
  ∃ X Sd Ss, W.heap[G]? = some (.cells #[.pointer (some ⟨D, 0, none⟩), .pointer (some ⟨X, 0, none⟩)] 227) ∧ S G ∧ (∀ k, Sd k → S k ∧ k ≠ G) ∧ (∀ k, Ss k → S k ∧ k ≠ G) ∧ Dj Sd Ss ∧
    DiskAt W Sd D m (fileOf rs) ∧ SaysAt W Ss X (say rs).1 (say rs).2 ∧ LogOk rs ∧ (logB rs).length ≤ 65536
theorem LogAt.frame {W W' : World} {S : Nat → Prop} {G D m : Nat} {rs : List Rc} (h : LogAt W S G D m rs) (hb : ∀ k, S k → W'.heap[k]? = W.heap[k]?) : LogAt W' S G D m rs := by
  obtain ⟨X, Sd, Ss, hG, sG, hd, hss, hdj, h1, h2, h3⟩ := h
  exact ⟨X, Sd, Ss, (hb G sG).trans hG, sG, hd, hss, hdj, h1.frame fun k hk => hb k (hd k hk).1, h2.frame fun k hk => hb k (hss k hk).1, h3⟩
theorem lopen_any (Sd : Nat → Prop) (D m : Nat) (rs : List Rc) (hok : LogOk rs) (hlen : (logB rs).length ≤ 65536) (W : World) (h : DiskAt W Sd D m (fileOf rs)) (hS : Lt Sd W) :
    Calls Tryz.prog 129 #[.pointer (some ⟨D, 0, none⟩)] W fun e W' => ∃ G S', e = .returned (.pointer (some ⟨G, 0, none⟩)) ∧ LogAt W' S' G D m rs ∧ Step Sd W W' S' := by
  by_cases hne : rs = []
  · subst hne
    have h0 := Lib.hid (dread_none Sd D m W h)
    have h1 := Lib.hid (lscan_any [] LogOk.nil none [] (Lib.hid rfl) 0 (by decide) (by decide) (by decide) W (RdB.nil _ _))
    have Hd := Lib.hid h
    clear h
    unfold logName at h0
    go_enter Tryz.func129, Tryz.ntmps129
    go_wp2_with fail
    refine (h0.out).mono ?_
    rintro e w0 ⟨rfl, rfl⟩
    go_wp2_with fail
    refine (h1.out).mono ?_
    rintro e w1 ⟨X, Ss, rfl, hSs, hSl, hb1⟩
    go_wp2
    go_ret
    have hs1 := hb1.size
    refine ⟨w1.heap.size, fun k => Sd k ∨ Ss k ∨ k = w1.heap.size, rfl, ⟨X, Sd, Ss, heap_alloc_new _ _, .inr (.inr rfl), fun k hk => ⟨.inl hk, by have := hS k hk; omega⟩, fun k hk => ⟨.inr (.inl hk), by have := (hSl k hk).2; omega⟩, fun k a b => by have := hS k a; have := (hSl k b).1; omega, ?_, ?_, LogOk.nil, hlen⟩, ?_, ?_, ?_⟩
    · exact (Hd.out.frame fun k hk => hb1.block k (hS k hk)).frame fun k hk => heap_alloc_old _ _ (Nat.lt_of_lt_of_le (hS k hk) hs1)
    · exact hSs.frame fun k hk => heap_alloc_old _ _ (hSl k hk).2
    · exact (Turned.of_below hb1).alloc _
    · rintro k (hk | hk | hk)
      · exact .inl hk
      · exact .inr (hSl k hk).1
      · exact .inr (by omega)
    · rintro k (hk | hk | hk)
      · have := hS k hk; simp; omega
      · have := (hSl k hk).2; simp; omega
      · simp; omega
  · rw [fileOf_cons hne] at h
    have hb0 : 0 < (logB rs).length := by
      rcases Nat.eq_zero_or_pos (logB rs).length with h0 | h0
      · exact absurd (logB_len rs (List.eq_nil_of_length_eq_zero h0)) hne
      · exact h0
    have h0 := Lib.hid (dread_some Sd D m _ _ W h)
    have Hd := Lib.hid h
    have HS := Lib.hid hS
    clear h hS
    unfold logName at h0
    go_enter Tryz.func129, Tryz.ntmps129
    go_wp2_with fail
    refine (h0.out).mono ?_
    rintro e w1 ⟨L, A, c, hL, rfl, ho, hc, hb1⟩
    have hLl : L.length = (logB rs).length := by rw [hL.out]
    have hle : L.length ≤ 65536 ∧ 0 < L.length := by omega
    have HLl := Lib.hid hLl
    have hcm := ho.capmax
    unfold maxLen at hcm
    clear hLl
    go_wp2_with fail
    refine (lscan_any rs hok A L hL c hc hcm hle.1 _ ho.rd).mono ?_
    rintro e w2 ⟨X, Ss, rfl, hSs, hSl, hb2⟩
    have hB2 := below_next hb1 hb2
    have hs1 := hb1.size
    have hs2 := hb2.size
    have hD2 := Lib.hid (Hd.out.frame (W' := w2) fun k hk => hB2.block k (HS.out k hk))
    have hSd2 := Lib.hid (HS.out.wide hB2.size)
    have ht := Lib.hid (dtrim_all Sd D m (logB rs) _ L.length HLl.out.symm hle.2 w2 hD2.out hSd2.out)
    have HSs := Lib.hid hSs
    have HSl := Lib.hid hSl
    have HB2 := Lib.hid hB2
    clear hSs hSl hb1 hb2 ho hB2
    unfold logName at ht
    go_wp2_with fail
    refine (ht.out).mono ?_
    rintro e w3 ⟨rfl, hD3, hT3⟩
    have hs3 := hT3.size
    have hy := Lib.hid (dsync_some Sd D m (logB rs) _ w3 hD3)
    have HT3 := Lib.hid hT3
    clear hD3 hT3
    unfold logName at hy
    go_wp2_with fail
    refine (hy.out).mono ?_
    rintro e w4 ⟨rfl, hD4, hT4⟩
    have hs4 := hT4.size
    have HT4 := Lib.hid hT4
    have HD4 := Lib.hid hD4
    clear hD4 hT4
    go_wp2
    go_ret
    have hSs2 : Lt Ss w2 := fun k hk => (HSl.out k hk).2
    have hSd := HS.out
    have hdj : Dj Ss Sd := fun k a b => by have := hSd k b; have := (HSl.out k a).1; omega
    have hT24 := HT3.out.trans HT4.out
    refine ⟨w4.heap.size, fun k => Sd k ∨ Ss k ∨ k = w4.heap.size, rfl, ⟨X, Sd, Ss, heap_alloc_new _ _, .inr (.inr rfl), fun k hk => ⟨.inl hk, by have := hSd k hk; omega⟩, fun k hk => ⟨.inr (.inl hk), by have := hSs2 k hk; omega⟩, hdj.symm, ?_, ?_, hok, hlen⟩, ?_, ?_, ?_⟩
    · rw [fileOf_cons hne]
      exact HD4.out.frame fun k hk => heap_alloc_old _ _ (by have := hSd k hk; omega)
    · exact (HSs.out.frame (hT24.keeps hdj hSs2)).frame fun k hk => heap_alloc_old _ _ (by have := hSs2 k hk; omega)
    · exact ((Turned.of_below HB2.out).trans hT24).alloc _
    · rintro k (hk | hk | hk)
      · exact .inl hk
      · exact .inr (by have := (HSl.out k hk).1; omega)
      · exact .inr (by omega)
    · rintro k (hk | hk | hk)
      · have := hSd k hk; simp; omega
      · have := hSs2 k hk; simp; omega
      · simp; omega
open Crc
theorem lpromised_any (S : Nat → Prop) (G D m : Nat) (rs : List Rc) (W : World) (h : LogAt W S G D m rs) :
    Calls Tryz.prog 102 #[.pointer (some ⟨G, 0, none⟩)] W fun e W' => e = .returned (.int .i64 ((say rs).1 : Int)) ∧ W = W' := by
  obtain ⟨X, Sd, Ss, hG, sG, hd, hss, hdj, h1, ⟨M, hX, _⟩, h3⟩ := h
  obtain ⟨p, hp⟩ : ∃ p, p = (say rs).1 := ⟨_, rfl⟩
  rw [← hp] at hX ⊢
  have c0 : W.cell? ⟨G, 1, none⟩ = some (.pointer (some ⟨X, 0, none⟩)) := by simp [World.cell?, hG]
  have c1 : W.cell? ⟨X, 0, none⟩ = some (.int .i64 (p : Int)) := by simp [World.cell?, hX]
  clear hp
  go_enter Tryz.func102, Tryz.ntmps102
  go_wp2
  go_ret
  exact ⟨rfl, rfl⟩
theorem lvotes_any (S : Nat → Prop) (G D m : Nat) (rs : List Rc) (W : World) (h : LogAt W S G D m rs) (hS : Lt S W) :
    Calls Tryz.prog 100 #[.pointer (some ⟨G, 0, none⟩)] W fun e W' => ∃ (L : List Vt) (A : Option Addr) (c : Nat), Hid (L = (say rs).2) ∧ e = .returned (.slice A L.length c) ∧ OwnT vcells 62 5 W' W.heap.size A c L ∧ ((say rs).2 = [] → A = none ∧ c = 0) ∧ Below W.heap.size W W' := by
  obtain ⟨X, Sd, Ss, hG, sG, hd, hss, hdj, h1, h2, h3, _⟩ := h
  have c0 : W.cell? ⟨G, 1, none⟩ = some (.pointer (some ⟨X, 0, none⟩)) := by simp [World.cell?, hG]
  have hr := h3.rising
  have hs := Lib.hid (sorted_any Ss X _ _ hr.1 (hr.1.len hr.2) hr.2 W h2 (fun k hk => hS k (hss k hk).1))
  clear hr h2 h3
  go_enter Tryz.func100, Tryz.ntmps100
  go_wp2_with fail
  refine (hs.out).mono ?_
  rintro e w1 ⟨L, A, c, hL, rfl, ho, h0, hb⟩
  go_wp2
  go_ret
  exact ⟨L, A, c, hL, rfl, ho, h0, hb⟩
theorem dappend_log (S : Nat → Prop) (D m : Nat) (rs : List Rc) (W : World) (h : DiskAt W S D m (fileOf rs)) (hS : Lt S W) (B : Option Addr) (b : List Nat) (cb : Nat) (hb0 : 0 < b.length) (hbb : Bytes b) (hr : RdB W B b) (hfit : (logB rs).length + b.length ≤ m) :
    Calls Tryz.prog 191 #[.pointer (some ⟨D, 0, none⟩), .string logName, .slice B b.length cb] W fun e W' => ∃ S', e = .returned (.int .i64 0) ∧ DiskAt W' S' D m (some (logB rs ++ b, (logB rs).length)) ∧ Step S W W' S' := by
  by_cases hne : rs = []
  · subst hne
    exact dappend_none S D m W h hS B b cb hb0 hbb hr (by simpa [logB] using hfit)
  · rw [fileOf_cons hne] at h
    exact dappend_some S D m _ _ W h hS B b cb hb0 hbb hr hfit
theorem ladd_any (S : Nat → Prop) (G D m : Nat) (rs : List Rc) (r : Rc) (hr : ok1 (say rs) r) (hfit : (logB rs).length + 556 ≤ m) (A : Option Addr) (L : List Nat) (hL : Hid (L = rcB r)) (c : Nat) (hc : L.length ≤ c) (hcm : c ≤ 9223372036854775807) (W : World) (h : LogAt W S G D m rs) (hS : Lt S W) (hrd : RdB W A L) (hap : ∀ k, blk A = some k → ¬ S k) :
    Calls Tryz.prog 153 #[.pointer (some ⟨G, 0, none⟩), .slice A L.length c] W fun e W' => ∃ S', e = .returned (.int .i64 0) ∧ LogAt W' S' G D m (rs ++ [r]) ∧ Step S W W' S' := by
  obtain ⟨X, Sd, Ss, hG, sG, hd, hss, hdj, h1, h2, h3, h4⟩ := h
  have hGl := hS G sG
  have hLr := ok1_len hr
  rw [← hL.out] at hLr
  have c0 : W.cell? ⟨G, 0, none⟩ = some (.pointer (some ⟨D, 0, none⟩)) := by simp [World.cell?, hG]
  have hput := Lib.hid (fput_any A L c hLr.2.1 (by omega) W.drew hrd)
  have H1 := Lib.hid h1
  have H2 := Lib.hid h2
  have HS := Lib.hid hS
  have HR := Lib.hid hrd
  have hm : m ≤ 65536 := by obtain ⟨_, _, _, _, _, hm, _⟩ := h1; exact hm
  have hl1 : L.length ≤ 544 := hLr.1
  have Hfit := Lib.hid hfit
  have Hd := Lib.hid hd
  have Hss := Lib.hid hss
  clear h1 h2 hLr hrd hfit hd hss
  have Hbyt := Lib.hid (frameN_bytes (show Bytes L by rw [hL.out]; exact (ok1_len hr).2.1))
  have HA := Lib.hid (fun (w1 : World) (A1 : Option Addr) (L1 : List Nat) (c1 : Nat) (hb1 : Below W.heap.size W w1) (HL1 : Hid (L1 = frameN L)) (hr1 : RdB w1 A1 L1) =>
    dappend_log Sd D m rs w1 (H1.out.frame fun k hk => hb1.block k (HS.out k (Hd.out k hk).1)) (fun k hk => Nat.lt_of_lt_of_le (HS.out k (Hd.out k hk).1) hb1.size) A1 L1 c1 (by rw [HL1.out, frameN_length]; omega) (by rw [HL1.out]; exact Hbyt.out) hr1 (by rw [HL1.out, frameN_length]; have := Hfit.out; omega))
  unfold logName at HA
  go_enter Tryz.func153, Tryz.ntmps153
  go_wp2
  go_region_held3 (fun w' => w'.cell? ⟨G, 0, none⟩ = some (.pointer (some ⟨D, 0, none⟩))) (first | exact HS2 | exact HS1 | exact c0)
    (first
      | (have _ := HS1; go_at_call 191; refine (HA1.out).mono ?_; rintro e w2 ⟨Sd2, rfl, hD2, hT2⟩; have HS2 : w2.cell? ⟨G, 0, none⟩ = some (.pointer (some ⟨D, 0, none⟩)) := (hT2.t.cell (p := ⟨G, 0, none⟩) (Nat.lt_of_lt_of_le hGl hb1.size) (fun e => (Hd.out G e).2 rfl)).trans HS1)
      | (go_at_call 80; refine (hput.out).mono ?_; rintro e w1 ⟨L1, A1, c1, HL1, rfl, ho1, hc1, hb1'⟩; have hb1 := below_undrew hb1'; have HS1 : w1.cell? ⟨G, 0, none⟩ = some (.pointer (some ⟨D, 0, none⟩)) := (hb1.cell (p := ⟨G, 0, none⟩) hGl).trans c0; have HA1 := Lib.hid (HA.out w1 A1 L1 c1 hb1 HL1 ho1.rd)))
  have hG1 := (hb1.block G hGl).trans hG
  have hG2 := (hT2.t.block G (Nat.lt_of_lt_of_le hGl hb1.size) (fun e => (Hd.out G e).2 rfl)).trans hG1
  have hlts : Lt Ss W := fun k hk => HS.out k (Hss.out k hk).1
  have hltd : Lt Sd W := fun k hk => HS.out k (Hd.out k hk).1
  have hSy2 := H2.out.frame (W' := w2) fun k hk => (hT2.t.block k (Nat.lt_of_lt_of_le (hlts k hk) hb1.size) (fun e => hdj k e hk)).trans (hb1.block k (hlts k hk))
  have hy := Lib.hid (dsync_some Sd2 D m _ _ w2 hD2)
  unfold logName at hy
  have hne2 : ¬ Sd2 G := fun e => by
    rcases hT2.sub G e with h | h
    · exact (Hd.out G h).2 rfl
    · have := hb1.size; omega
  go_wp2_with fail
  refine (hy.out).mono ?_
  rintro e w3 ⟨rfl, hD3, hT3⟩
  have hG3 := (hT3.block G (by have := hb1.size; have := hT2.t.size; omega) hne2).trans hG2
  have hs1 := hb1.size
  have hs2 := hT2.t.size
  have hs3 := hT3.size
  have hdj2 : Dj Ss Sd2 := hT2.dj hdj.symm (hlts.wide hs1)
  have hSy3 := Lib.hid (hSy2.frame (hT3.keeps hdj2 (hlts.wide (Nat.le_trans hs1 hs2))))
  have hlt3 := Lib.hid (hlts.wide (Nat.le_trans hs1 (Nat.le_trans hs2 hs3)))
  have hLp : 0 < L.length := by rw [hL.out]; exact (ok1_len hr).2.2
  have hR3 := Lib.hid (show RdB w3 A L from HR.out.of_block fun k hk => by
    have hkl : k < W.heap.size := by
      obtain ⟨ad, rfl, hc0⟩ := HR.out hLp
      have h0 := lt_of_cell (hc0 0 hLp)
      rw [add_block] at h0
      have e : ad.block = k := by simpa [blk] using hk
      omega
    have hn : ¬ Sd k := fun e => hap k hk (Hd.out k e).1
    have hn2 : ¬ Sd2 k := fun e => by
      rcases hT2.sub k e with h | h
      · exact hn h
      · omega
    exact (hT3.block k (by omega) hn2).trans ((hT2.t.block k (by omega) hn).trans (hb1.block k hkl)))
  have HT := Lib.hid (show Turned S W w3 from ((Turned.of_below hb1).next (hT2.t) (fun k hk => .inl (Hd.out k hk).1)).next hT3 (fun k hk => by
    rcases hT2.sub k hk with h | h
    · exact .inl (Hd.out k h).1
    · exact .inr (by omega)))
  have HD3 := Lib.hid hD3
  have HSub := Lib.hid (show ∀ k, Sd2 k → (S k ∨ W.heap.size ≤ k) ∧ k < w2.heap.size from fun k hk => ⟨by
    rcases hT2.sub k hk with h | h
    · exact .inl (Hd.out k h).1
    · exact .inr (by omega), hT2.lt k hk⟩)
  have c3 : w3.cell? ⟨G, 1, none⟩ = some (.pointer (some ⟨X, 0, none⟩)) := by simp [World.cell?, hG3]
  have Hdj2 := Lib.hid hdj2
  have HneG := Lib.hid hne2
  clear hT2 hT3 hb1 hb1' hD2 hD3 hSy2 hdj2 hlts hltd hne2
  go_wp2_with fail
  refine (take_any Ss X (say rs) r hr A L hL c hc hcm w3 hSy3.out hlt3.out hR3.out).mono ?_
  rintro e w4 ⟨rfl, hS4, hT4⟩
  have hs4 := hT4.size
  go_wp2
  go_ret
  have hnG : ¬ Ss G := fun e => (Hss.out G e).2 rfl
  refine ⟨fun k => k = G ∨ Sd2 k ∨ Ss k, rfl, ⟨X, Sd2, Ss, (hT4.block G (by omega) hnG).trans hG3, .inl rfl, fun k hk => ⟨.inr (.inl hk), ?_⟩, fun k hk => ⟨.inr (.inr hk), (Hss.out k hk).2⟩, Hdj2.out.symm, ?_, ?_, LogOk.snoc h3 hr, ?_⟩, ?_, ?_, ?_⟩
  · rintro rfl; exact HneG.out hk
  · rw [fileOf_cons (by simp), logB_snoc]
    have hll : frameN L = frameN (rcB r) := by rw [hL.out]
    rw [← hll, ← HL1.out]
    exact HD3.out.frame (hT4.keeps Hdj2.out.symm fun k hk => by have := (HSub.out k hk).2; omega)
  · rw [say_snoc]; exact hS4
  · rw [logB_snoc, List.length_append, frameN_length]
    have := (ok1_len hr).1
    have := Hfit.out
    omega
  · exact HT.out.next hT4 fun k hk => .inl (Hss.out k hk).1
  · rintro k (hk | hk | hk)
    · subst hk; exact .inl sG
    · exact (HSub.out k hk).1
    · exact .inl (Hss.out k hk).1
  · rintro k (hk | hk | hk)
    · subst hk; omega
    · have := (HSub.out k hk).2; omega
    · have := HS.out k (Hss.out k hk).1; omega
open Crc
theorem lpromise_any (S : Nat → Prop) (G D m : Nat) (rs : List Rc) (b : Nat) (h1 : 1 ≤ b) (h2 : b ≤ 2147483647) (hlt : (say rs).1 < b) (hfit : (logB rs).length + 556 ≤ m) (W : World) (h : LogAt W S G D m rs) (hS : Lt S W) :
    Calls Tryz.prog 112 #[.pointer (some ⟨G, 0, none⟩), .int .i64 (b : Int)] W fun e W' => ∃ S', e = .returned (.int .i64 0) ∧ LogAt W' S' G D m (rs ++ [.p b]) ∧ Step S W W' S' := by
  have HL := Lib.hid h
  obtain ⟨X, Sd, Ss, hG, sG, hd, hss, hdj, _, ⟨M, hX, sX, _⟩, _⟩ := h
  have hGl := hS G sG
  have hXl := hS X (hss X sX).1
  obtain ⟨p, hp⟩ : ∃ p, p = (say rs).1 := ⟨_, rfl⟩
  rw [← hp] at hX hlt
  have HP := Lib.hid hp
  have HS := Lib.hid hS
  have hbp : decide ((b : Int) ≤ (p : Int)) = false := by simp; omega
  clear hp hd hss hdj sX sG hS
  go_enter Tryz.func112, Tryz.ntmps112
  go_wp2_with fail
  refine (promise_any b h1 h2 _).mono ?_
  rintro e w1 ⟨L, A, c, hL, rfl, ho, hc, hb1⟩
  have hG1 := (hb1.block G hGl).trans hG
  have hX1 := (hb1.block X hXl).trans hX
  have c0 : w1.cell? ⟨G, 1, none⟩ = some (.pointer (some ⟨X, 0, none⟩)) := by simp [World.cell?, hG1]
  have c1 : w1.cell? ⟨X, 0, none⟩ = some (.int .i64 (p : Int)) := by simp [World.cell?, hX1]
  have HL1 := Lib.hid (HL.out.frame (W' := w1) fun k hk => hb1.block k (HS.out k hk))
  have HS1 := Lib.hid (HS.out.wide hb1.size)
  have hcm := ho.capmax
  unfold maxLen at hcm
  have Ho := Lib.hid ho
  have HB := Lib.hid hb1
  have HA := Lib.hid (fun hok => ladd_any S G D m rs (.p b) hok hfit A L hL c hc hcm w1 HL1.out HS1.out ho.rd (fun k hk e => by have := (ho.lt k hk).1; have := HS.out k e; omega))
  clear ho hb1 hfit
  go_wp2_with fail
  refine ((HA.out ⟨h1, h2⟩)).mono ?_
  rintro e w2 ⟨S2, rfl, hL2, hT2⟩
  go_wp2
  go_ret
  exact ⟨S2, rfl, hL2, (Turned.of_below HB.out).trans hT2.t, fun k hk => (hT2.sub k hk).imp id (fun h => by have := HB.out.size; omega), hT2.lt⟩
theorem lvote_any (S : Nat → Prop) (G D m : Nat) (rs : List Rc) (v : Vt) (hok : ok1 (say rs) (.v v)) (hfit : (logB rs).length + 556 ≤ m) (W : World) (h : LogAt W S G D m rs) (hS : Lt S W) :
    Calls Tryz.prog 182 #[.pointer (some ⟨G, 0, none⟩), vtv v] W fun e W' => ∃ S', e = .returned (.int .i64 0) ∧ LogAt W' S' G D m (rs ++ [.v v]) ∧ Step S W W' S' := by
  have HL := Lib.hid h
  have HOk := Lib.hid hok
  obtain ⟨hv, hbp, _⟩ := hok
  have Hp := Lib.hid (fun w => vput_any v hv w)
  obtain ⟨X, Sd, Ss, hG, sG, hd, hss, hdj, _, ⟨M, hX, sX, _⟩, _⟩ := h
  have hGl := hS G sG
  have hXl := hS X (hss X sX).1
  obtain ⟨p, hp⟩ : ∃ p, p = (say rs).1 := ⟨_, rfl⟩
  rw [← hp] at hX hbp
  have HP := Lib.hid hp
  have HS := Lib.hid hS
  have hbp2 : decide ((v.ballot : Int) < (p : Int)) = false := by simp; omega
  clear hp hd hss hdj sX sG hS hv
  unfold vtv at Hp ⊢
  go_enter Tryz.func182, Tryz.ntmps182
  go_wp2_with fail
  have hb0 := (Below.refl W.heap.size W).alloc (Nat.le_refl _) (.cells #[.int .i64 (v.slot : Int), .int .i64 (v.ballot : Int), .int .i64 (v.origin : Int), .bool v.full, .string v.bytes] 62)
  have hv0 := heap_alloc_new W (.cells #[.int .i64 (v.slot : Int), .int .i64 (v.ballot : Int), .int .i64 (v.origin : Int), .bool v.full, .string v.bytes] 62)
  refine (Hp.out _).mono ?_
  rintro e w1 ⟨L, A, c, hL, rfl, ho, hc, hb1'⟩
  have hb1 := below_next hb0 hb1'
  have hv1 := (hb1'.block W.heap.size (by simp)).trans hv0
  have hG1 := (hb1.block G hGl).trans hG
  have hX1 := (hb1.block X hXl).trans hX
  have c0 : w1.cell? ⟨G, 1, none⟩ = some (.pointer (some ⟨X, 0, none⟩)) := by simp [World.cell?, hG1]
  have c1 : w1.cell? ⟨X, 0, none⟩ = some (.int .i64 (p : Int)) := by simp [World.cell?, hX1]
  have c2 : w1.cell? ⟨W.heap.size, 1, none⟩ = some (.int .i64 (v.ballot : Int)) := by simp [World.cell?, hv1]
  have hcm := ho.capmax
  unfold maxLen at hcm
  have HB := Lib.hid hb1
  have Ho := Lib.hid ho
  clear ho hb1 hb1' hb0
  go_wp2
  go_quiet (fail)
  have HA := Lib.hid (ladd_any S G D m rs (.v v) HOk.out hfit A L hL c hc hcm (w1.drewN nq) (HL.out.frame fun k hk => HB.out.block k (HS.out k hk)) (HS.out.wide HB.out.size) (Ho.out.rd.drewN nq) (fun k hk e => by have h1 := (Ho.out.lt k hk).1; have h2 := HS.out k e; rw [World.size_alloc] at h1; omega))
  go_wp2_with fail
  refine (HA.out).mono ?_
  rintro e w2 ⟨S2, rfl, hL2, hT2⟩
  go_wp2
  go_ret
  have hB := HB.out
  have hs1 := hB.size
  exact ⟨S2, rfl, hL2, ((Turned.of_below (S := S) (show Below W.heap.size W (w1.drewN nq) from below_drewN hB))).trans hT2.t, fun k hk => (hT2.sub k hk).imp id (fun h => by have h' : w1.heap.size ≤ k := h; omega), hT2.lt⟩
end Go.Proofs.YtoigogjmhkpdlaaGreat
