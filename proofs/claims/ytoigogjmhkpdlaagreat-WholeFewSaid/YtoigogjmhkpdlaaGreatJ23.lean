/- A part of the proof of WholeFew: the texts ClustA, ClustB, Model, ClustC, ClustD, ClustE, ModelB, FewA. -/
import Derived.Test.YtoigogjmhkpdlaaGreatJ22
set_option maxHeartbeats 6400000
set_option maxRecDepth 1000000
namespace Go.Proofs.YtoigogjmhkpdlaaGreat
open Go.RowKit
structure Sp where
  kind : Int
  node : Int
  i : Int
  full : Bool
  cmd : Cm
def spcells (x : Sp) : List Value := [.int .i64 x.kind, .int .i64 x.node, .int .i64 x.i, .int .i64 0, .bool x.full, .slice none 0 0] ++ cmcells x.cmd
def spv (x : Sp) : Value := .agg (spcells x).toArray
theorem due_any (C : Nat) (v0 v1 v2 v4 v5 v6 : Value) (clock : Nat) (hc : clock < 1000000) (x : Sp) (W : World) (hC : W.heap[C]? = some (.cells #[v0, v1, v2, .int .i64 (clock : Int), v4, v5, v6] 88)) :
    Calls Tryz.prog 72 #[.pointer (some ⟨C, 0, none⟩), spv x] W fun e W' => e = .returned (.int .i64 (clock : Int)) ∧ Below W.heap.size W W' := by
  have hCl := (Array.getElem?_eq_some_iff.1 hC).1
  have c3 : W.cell? ⟨C, 3, none⟩ = some (.int .i64 (clock : Int)) := cob hC 3 rfl
  clear hC
  obtain ⟨kd, nd, i, full, ⟨cl, sq, kind, row, col, to, at_, value, expect, has⟩⟩ := x
  unfold spv spcells cmcells
  simp only [List.cons_append, List.nil_append]
  go_enter Tryz.func72, Tryz.ntmps72
  go_wp2
  generalize hw1 : World.alloc W _ = w1
  have hB := named_new hw1.symm
  have hb1 := named_below hw1.symm
  clear hw1
  have d3 : w1.cell? ⟨C, 3, none⟩ = some (.int .i64 (clock : Int)) := (hb1.cell (p := ⟨C, 3, none⟩) hCl).trans c3
  have x3 : w1.cell? ⟨W.heap.size, 3, none⟩ = some (.int .i64 0) := cob hB 3 rfl
  clear hB c3
  go_region
  go_wp2
  go_ret
  exact ⟨rfl, hb1.drew⟩
theorem flying_any (C : Nat) (v0 v1 v3 v4 v5 v6 : Value) (S : Nat → Prop) (G nx : Nat) (l : List Pk) (W : World) (hC : W.heap[C]? = some (.cells #[v0, v1, .pointer (some ⟨G, 0, none⟩), v3, v4, v5, v6] 88)) (hP : PlAt W S G nx l) :
    Calls Tryz.prog 20 #[.pointer (some ⟨C, 0, none⟩)] W fun e W' => e = .returned (.int .i64 (l.length : Nat)) ∧ W = W' := by
  have c2 : W.cell? ⟨C, 2, none⟩ = some (.pointer (some ⟨G, 0, none⟩)) := cob hC 2 rfl
  have HL := Lib.hid (plen_any S G nx l W hP)
  clear hC hP
  go_enter Tryz.func20, Tryz.ntmps20
  go_wp2_with (first | (go_at_call 44; refine HL.out.mono ?_; rintro e w1 ⟨rfl, rfl⟩))
  go_ret
  exact ⟨rfl, rfl⟩
def bcell (b : Bool) : List Value := [.bool b]
theorem bcell_len (b : Bool) : (bcell b).length = 1 := rfl
theorem up_any (C : Nat) (v0 v2 v3 v4 v5 v6 : Value) (U : Option Addr) (uc base : Nat) (ups : List Bool) (i : Nat) (b : Bool) (hi : ups[i]? = some b) (W : World) (hC : W.heap[C]? = some (.cells #[v0, .slice U ups.length uc, v2, v3, v4, v5, v6] 88)) (hU : OwnT bcell 4 1 W base U uc ups) :
    Calls Tryz.prog 14 #[.pointer (some ⟨C, 0, none⟩), .int .i64 (i : Int)] W fun e W' => e = .returned (.bool b) ∧ W = W' := by
  obtain ⟨hil, hie⟩ := List.getElem?_eq_some_iff.1 hi
  obtain ⟨g, rfl, _, hg, hlc⟩ := hU.form (by omega)
  have c1 : W.cell? ⟨C, 1, none⟩ = some (.slice (some ⟨g, 0, none⟩) ups.length uc) := cob hC 1 rfl
  have u0 := hU.cell bcell_len i 0 hil (.bool b) (by rw [hie]; rfl)
  simp only [Nat.mul_one, Nat.add_zero] at u0
  have d0 : decide ((0 : Int) ≤ ((i : Nat) : Int)) = true := by simp
  have d1 : decide (((i : Nat) : Int) < ((ups.length : Nat) : Int)) = true := by simpa using hil
  have d2 : ((i : Nat) : Int) < ((ups.length : Nat) : Int) := by omega
  clear hC hU hi hie hil
  go_enter Tryz.func14, Tryz.ntmps14
  go_wp2
  go_ret
  exact ⟨rfl, rfl⟩
def ncell (N : Nat) : List Value := [.pointer (some ⟨N, 0, none⟩)]
theorem ncell_len (N : Nat) : (ncell N).length = 1 := rfl
theorem cleads_any (R : World → (Nat → Prop) → Nat → Prop) (C : Nat) (v2 v3 v4 v5 v6 : Value) (U A : Option Addr) (uc ac base base2 : Nat) (ups : List Bool) (nds : List Nat) (i N : Nat) (hi : ups[i]? = some true) (hn : nds[i]? = some N)
    (S : Nat → Prop) (s : Shp) (me D m : Nat) (rs : List Rc) (ld : Option LdM) (app : Nat) (cl ws dn : List (Value × Value)) (W : World) (hC : W.heap[C]? = some (.cells #[.slice A nds.length ac, .slice U ups.length uc, v2, v3, v4, v5, v6] 88)) (hU : OwnT bcell 4 1 W base U uc ups) (hA : OwnT ncell 89 1 W base2 A ac nds)
    (h : NodeAt R W S N s me D m rs ld app cl ws dn) :
    Calls Tryz.prog 30 #[.pointer (some ⟨C, 0, none⟩), .int .i64 (i : Int)] W fun e W' => e = .returned (.bool (ldB ld)) ∧ W = W' := by
  have HUp := Lib.hid (up_any C _ v2 v3 v4 v5 v6 U uc base ups i true hi W hC hU)
  have HL := Lib.hid (nleads_any R S N s me D m rs ld app cl ws dn W h)
  obtain ⟨hil, hie⟩ := List.getElem?_eq_some_iff.1 hn
  obtain ⟨g, rfl, _, hg, hlc⟩ := hA.form (by omega)
  have c0 : W.cell? ⟨C, 0, none⟩ = some (.slice (some ⟨g, 0, none⟩) nds.length ac) := cob hC 0 rfl
  have u0 := hA.cell ncell_len i 0 hil (.pointer (some ⟨N, 0, none⟩)) (by rw [hie]; rfl)
  simp only [Nat.mul_one, Nat.add_zero] at u0
  have d2 : ((i : Nat) : Int) < ((nds.length : Nat) : Int) := by omega
  clear hC hU hA h hi hn hie hil
  go_enter Tryz.func30, Tryz.ntmps30
  go_wp2_with (first | (go_at_call 14; refine HUp.out.mono ?_; rintro e w1 ⟨rfl, rfl⟩) | (go_at_call 62; refine HL.out.mono ?_; rintro e w1 ⟨rfl, rfl⟩))
  go_ret
  exact ⟨rfl, rfl⟩
theorem capplied_any (R : World → (Nat → Prop) → Nat → Prop) (C : Nat) (v2 v3 v4 v5 v6 : Value) (U A : Option Addr) (uc ac base base2 : Nat) (ups : List Bool) (nds : List Nat) (i N : Nat) (hi : ups[i]? = some true) (hn : nds[i]? = some N)
    (S : Nat → Prop) (s : Shp) (me D m : Nat) (rs : List Rc) (ld : Option LdM) (app : Nat) (cl ws dn : List (Value × Value)) (W : World) (hC : W.heap[C]? = some (.cells #[.slice A nds.length ac, .slice U ups.length uc, v2, v3, v4, v5, v6] 88)) (hU : OwnT bcell 4 1 W base U uc ups) (hA : OwnT ncell 89 1 W base2 A ac nds)
    (h : NodeAt R W S N s me D m rs ld app cl ws dn) :
    Calls Tryz.prog 16 #[.pointer (some ⟨C, 0, none⟩), .int .i64 (i : Int)] W fun e W' => e = .returned (.int .i64 (app : Int)) ∧ W = W' := by
  have HUp := Lib.hid (up_any C _ v2 v3 v4 v5 v6 U uc base ups i true hi W hC hU)
  have HL := Lib.hid (napplied_any R S N s me D m rs ld app cl ws dn W h)
  obtain ⟨hil, hie⟩ := List.getElem?_eq_some_iff.1 hn
  obtain ⟨g, rfl, _, hg, hlc⟩ := hA.form (by omega)
  have c0 : W.cell? ⟨C, 0, none⟩ = some (.slice (some ⟨g, 0, none⟩) nds.length ac) := cob hC 0 rfl
  have u0 := hA.cell ncell_len i 0 hil (.pointer (some ⟨N, 0, none⟩)) (by rw [hie]; rfl)
  simp only [Nat.mul_one, Nat.add_zero] at u0
  have d2 : ((i : Nat) : Int) < ((nds.length : Nat) : Int) := by omega
  clear hC hU hA h hi hn hie hil
  go_enter Tryz.func16, Tryz.ntmps16
  go_wp2_with (first | (go_at_call 14; refine HUp.out.mono ?_; rintro e w1 ⟨rfl, rfl⟩) | (go_at_call 40; refine HL.out.mono ?_; rintro e w1 ⟨rfl, rfl⟩))
  go_ret
  exact ⟨rfl, rfl⟩
end Go.Proofs.YtoigogjmhkpdlaaGreat
namespace Go.Proofs.YtoigogjmhkpdlaaGreat.Mdl
open Go.Proofs.YtoigogjmhkpdlaaGreat
structure Ap where
  m : Am
  due : Nat
  no : Nat
def lessA (p q : Ap) : Bool := Nat.blt p.due q.due || (Nat.beq p.due q.due && Nat.blt p.no q.no)
structure Lm where
  b : Nat
  ps : List Nat
  es : List (List Nat)
  leads : Bool
structure Nm where
  up : Bool
  prom : Nat
  vs : List Nat
  nrec : Nat
  ld : Option Lm
  app : Nat
  waits : List Nat
structure Km where
  nodes : List Nm
  pool : List Ap
  nx : Nat
  clock : Nat
  told : List (Nat × Nat)
def new1 : Nm := ⟨true, 0, [], 0, none, 0, []⟩
def newK (n : Nat) : Km := ⟨List.replicate n new1, [], 0, 0, []⟩
def sendK (k : Km) : List Am → Km
  | [] => k
  | m :: t => sendK { k with pool := k.pool ++ [⟨m, k.clock, k.nx⟩], nx := k.nx + 1 } t
def accK (n me b at_ : Nat) (acks : List Nat) : List Am := ((List.range n).filter (fun i => !acks.contains i)).map (fun i => ⟨3, me, i, b, 0, at_, b, b⟩)
def chosenK (q : Nat) : List (List Nat) → Nat
  | [] => 0
  | a :: t => if Nat.blt a.length q then 0 else 1 + chosenK q t
def okK (k : Km) : Option Km := if Nat.ble k.pool.length 400 && Nat.ble k.nx 900000 && Nat.blt k.clock 900000 then some k else none
def hearK (n q me : Nat) (nd : Nm) (m : Am) : Option (Nm × List Nat × List Am) :=
  match m.kind with
  | 1 =>
    if nd.vs.isEmpty then
      (if Nat.blt nd.prom m.ballot then (if nd.ld.isNone && Nat.blt nd.nrec 8 then some ({ nd with prom := m.ballot, nrec := nd.nrec + 1 }, [], [⟨2, me, m.frm, m.ballot, 0, 0, 0, 0⟩]) else none)
      else if Nat.beq nd.prom m.ballot && (match nd.ld with | none => true | some l => Nat.ble nd.prom l.b) then some (nd, [], [⟨2, me, m.frm, m.ballot, 0, 0, 0, 0⟩])
      else none)
    else none
  | 3 =>
    if Nat.ble nd.prom m.ballot && nd.vs.all (fun v => Nat.blt v m.vslot) && (match nd.ld with | none => true | some l => Nat.ble m.ballot l.b) && Nat.blt nd.nrec 8 then
      some ({ nd with prom := m.ballot, vs := nd.vs ++ [m.vslot], nrec := nd.nrec + 1 }, [], [⟨4, me, m.frm, m.ballot, m.vslot, 0, 0, 0⟩])
    else none
  | 2 => match nd.ld with
    | none => none
    | some l =>
      if Nat.beq m.ballot l.b && Nat.blt m.frm n && !l.ps.contains m.frm && l.ps.all (fun f => Nat.blt f n) then
        (if l.leads then (if Nat.ble (chosenK q l.es) nd.app then some (nd, [], []) else none)
        else if l.es.isEmpty then some ({ nd with ld := some { l with ps := l.ps ++ [m.frm], leads := Nat.ble q (l.ps.length + 1) } }, [], []) else none)
      else none
  | 4 => match nd.ld with
    | none => none
    | some l => match l.es[m.slot]? with
      | none => none
      | some a =>
        if l.leads && Nat.beq m.ballot l.b && Nat.blt m.frm n && Nat.ble a.length 6 then
          let es' := l.es.set m.slot (if a.contains m.frm then a else a ++ [m.frm])
          let nd1 := { nd with ld := some { l with es := es' } }
          (if Nat.ble (chosenK q es') nd.app then some (nd1, [], [])
          else if Nat.beq (chosenK q es') (nd.app + 1) && Nat.blt nd.app es'.length && (match nd.waits with | [w] => Nat.beq w nd.app | _ => false) then some ({ nd1 with app := nd.app + 1, waits := [] }, [nd.app], [])
          else none)
        else none
  | _ => none
def nextK (n q : Nat) (k : Km) : Option Km :=
  match popG lessA k.pool with
  | none => none
  | some (p, pool') =>
    let k1 := { k with pool := pool' }
    match k.nodes[p.m.to]? with
    | none => none
    | some nd =>
      if nd.up then
        match hearK n q p.m.to nd p.m with
        | none => none
        | some (nd', ans, out) =>
          let k2 := { k1 with nodes := k1.nodes.set p.m.to nd', told := k1.told ++ ans.map (fun a => (k1.clock, a)) }
          okK { sendK k2 out with clock := k.clock + 1 }
      else okK { k1 with clock := k.clock + 1 }
def allK (n q : Nat) : Nat → Km → Option Km
  | 0, k => if k.pool.isEmpty then some k else none
  | f + 1, k => if k.pool.isEmpty then some k else match nextK n q k with | none => none | some k' => allK n q f k'
def standK (n who : Nat) (k : Km) : Option Km :=
  match k.nodes[who]? with
  | none => none
  | some nd =>
    if nd.up && nd.ld.isNone && Nat.beq nd.nrec 0 then
      let b := if who = 0 then 8 else who
      okK { sendK { k with nodes := k.nodes.set who { nd with prom := b, nrec := nd.nrec + 1, ld := some ⟨b, [], [], false⟩, app := 0, waits := [] } } ((List.range n).map (fun i => ⟨1, who, i, b, 0, 0, 0, 0⟩)) with clock := k.clock + 1 }
    else none
def askK (n who : Nat) (k : Km) : Option Km :=
  match k.nodes[who]? with
  | none => none
  | some nd => match nd.ld with
    | none => none
    | some l => if nd.up && l.leads && nd.waits.isEmpty && Nat.blt l.es.length 2 && Nat.beq nd.app l.es.length then
        okK { sendK { k with nodes := k.nodes.set who { nd with ld := some { l with es := l.es ++ [[]] }, waits := nd.waits ++ [l.es.length] } } (accK n who l.b l.es.length []) with clock := k.clock + 1 }
      else none
def againK (q n me b : Nat) : Nat → List (List Nat) → List Am
  | _, [] => []
  | at_, a :: t => (if Nat.blt a.length q then accK n me b at_ a else []) ++ againK q n me b (at_ + 1) t
def tickK (q n who : Nat) (k : Km) : Option Km :=
  match k.nodes[who]? with
  | none => none
  | some nd => match nd.ld with
    | none => none
    | some l => if nd.up && l.leads then okK { sendK k (againK q n who l.b 0 l.es) with clock := k.clock + 1 } else none
def crashK (i : Nat) (k : Km) : Option Km :=
  match k.nodes[i]? with
  | none => none
  | some nd => if nd.up && Nat.blt 0 nd.nrec then okK { k with nodes := k.nodes.set i { nd with up := false, ld := none, app := 0, waits := [] }, clock := k.clock + 1 } else none
def upK (i : Nat) (k : Km) : Option Km := match k.nodes[i]? with | none => none | some nd => okK { k with nodes := k.nodes.set i { nd with up := true }, clock := k.clock + 1 }
def upAll (n : Nat) : Nat → Nat → Km → Option Km
  | 0, _, k => some k
  | f + 1, i, k => if Nat.blt i n then (upK i k).bind (upAll n f (i + 1)) else some k
def leadK (q n who : Nat) (k : Km) : Option Km := do
  let k0 ← upAll n 8 0 k
  let k1 ← allK n q 200 k0
  let k2 ← standK n who k1
  let k3 ← allK n q 200 k2
  match k3.nodes[who]? with
  | some nd => match nd.ld with | some l => if l.leads then some k3 else none | none => none
  | none => none
def crashF (n F down : Nat) : Nat → Nat → Nat → Km → Option Km
  | 0, _, _, k => some k
  | f + 1, i, gone, k => if Nat.blt i n && Nat.blt gone F then
      (if Nat.beq (down >>> i % 2) 1 || Nat.ble (n - i) (F - gone) then (crashK i k).bind (crashF n F down f (i + 1) (gone + 1)) else crashF n F down f (i + 1) gone k)
    else some k
def crashOne (n : Nat) : Nat → Nat → Km → Option Km
  | 0, _, k => some k
  | f + 1, i, k => if Nat.blt i n then (match k.nodes[i]? with | some nd => if nd.up then crashK i k else crashOne n f (i + 1) k | none => none) else some k
end Go.Proofs.YtoigogjmhkpdlaaGreat.Mdl
namespace Go.Proofs.YtoigogjmhkpdlaaGreat
open Go.RowKit
theorem bcell_one (b : Bool) : ∀ u ∈ bcell b, u.oneCell' = true := by
  intro u hu
  simp only [bcell, List.mem_cons, List.not_mem_nil, or_false] at hu
  rw [hu]; rfl
theorem rise_any (C : Nat) (v0 v2 v3 v4 v5 v6 : Value) (U : Option Addr) (uc base : Nat) (ups : List Bool) (i : Nat) (x : Sp) (hx : x.node = (i : Int)) (hi : i < ups.length) (W : World) (hC : W.heap[C]? = some (.cells #[v0, .slice U ups.length uc, v2, v3, v4, v5, v6] 88)) (hU : OwnT bcell 4 1 W base U uc ups) (hUC : blk U ≠ some C) :
    Calls Tryz.prog 38 #[.pointer (some ⟨C, 0, none⟩), spv x] W fun e W' => e = .returned (.tuple #[]) ∧ OwnT bcell 4 1 W' base U uc (ups.set i true) ∧ Turned (fun k => blk U = some k) W W' := by
  have hCl := (Array.getElem?_eq_some_iff.1 hC).1
  obtain ⟨g, rfl, _, hg, hlc⟩ := hU.form (by omega)
  have HC := Lib.hid hC
  have HU := Lib.hid hU
  have d0 : decide ((0 : Int) ≤ ((i : Nat) : Int)) = true := by simp
  have d1 : decide (((i : Nat) : Int) < ((ups.length : Nat) : Int)) = true := by simpa using hi
  have d2 : ((i : Nat) : Int) < ((ups.length : Nat) : Int) := by omega
  have u0 := hU.cell bcell_len i 0 hi (.bool ups[i]) rfl
  have f0 := hU.free i
  simp only [Nat.mul_one, Nat.add_zero] at u0
  have hgC : g ≠ C := fun e => hUC (by simp [blk, e])
  have c1 : W.cell? ⟨C, 1, none⟩ = some (.slice (some ⟨g, 0, none⟩) ups.length uc) := cob hC 1 rfl
  clear hC hU
  obtain ⟨kd, nd, j, full, ⟨cl, sq, kind, row, col, to, at_, value, expect, has⟩⟩ := x
  simp only at hx
  subst hx
  unfold spv spcells cmcells
  simp only [List.cons_append, List.nil_append]
  go_enter Tryz.func38, Tryz.ntmps38
  go_wp2
  generalize hw1 : World.alloc W _ = w1
  have hB := named_new hw1.symm
  have hb1 := named_below hw1.symm
  clear hw1
  have e1 : w1.cell? ⟨C, 1, none⟩ = some (.slice (some ⟨g, 0, none⟩) ups.length uc) := (hb1.cell (p := ⟨C, 1, none⟩) hCl).trans c1
  have x1 : w1.cell? ⟨W.heap.size, 1, none⟩ = some (.int .i64 (i : Int)) := cob hB 1 rfl
  have hU1 := HU.out.below hb1 (Nat.le_refl _)
  have w0 : w1.cell? ⟨g, i, none⟩ = some (.bool ups[i]) := (hb1.cell (p := ⟨g, i, none⟩) hg).trans u0
  have q0 := hU1.free i
  have HU1 := Lib.hid hU1
  clear hB c1 u0 f0 hU1
  go_quiet (fail)
  go_wp2
  go_region
  go_wp2
  go_end0
  have hUn : OwnT bcell 4 1 (w1.drewN (nq + 1)) base (some ⟨g, 0, none⟩) uc ups := HU1.out
  have h9 := hUn.setAt bcell_len i hi true
  simp only [Nat.mul_one, World.setCells, bcell] at h9
  exact ⟨rfl, h9, ((Turned.of_below (S := fun k => blk (some (⟨g, 0, none⟩ : Addr)) = some k) hb1).drewN (nq + 1)).setCell (p := ⟨g, i, none⟩) (.inl rfl) _⟩
theorem ccrash_any (R : World → (Nat → Prop) → Nat → Prop) (hR : Framed R) (C : Nat) (v2 v3 v4 v5 v6 : Value) (U A : Option Addr) (uc ac base base2 : Nat) (ups : List Bool) (nds : List Nat) (i N : Nat) (hi : ups[i]? = some true) (hn : nds[i]? = some N) (x : Sp) (hx : x.node = (i : Int))
    (S : Nat → Prop) (s : Shp) (me D m : Nat) (rs : List Rc) (hrs : rs ≠ []) (ld : Option LdM) (app : Nat) (cl ws dn : List (Value × Value)) (W : World) (hC : W.heap[C]? = some (.cells #[.slice A nds.length ac, .slice U ups.length uc, v2, v3, v4, v5, v6] 88)) (hU : OwnT bcell 4 1 W base U uc ups) (hA : OwnT ncell 89 1 W base2 A ac nds)
    (h : NodeAt R W S N s me D m rs ld app cl ws dn) (hS : Lt S W) (hSC : ¬ S C) (hSA : ∀ k, blk A = some k → ¬ S k) (hSU : ∀ k, blk U = some k → ¬ S k) (hUC : blk U ≠ some C) :
    Calls Tryz.prog 37 #[.pointer (some ⟨C, 0, none⟩), spv x] W fun e W' => e = .returned (.tuple #[]) ∧ ∃ S' w2, NodeAt TreeE w2 S' N s me D m rs none 0 [] [] [] ∧ Step S W w2 S' ∧ OwnT bcell 4 1 W' base U uc (ups.set i false) ∧ w2.grownBy W' (blk U) ∧ W'.heap.size = w2.heap.size := by
  have hCl := (Array.getElem?_eq_some_iff.1 hC).1
  obtain ⟨hil, hie⟩ := List.getElem?_eq_some_iff.1 hn
  obtain ⟨hul, hue⟩ := List.getElem?_eq_some_iff.1 hi
  obtain ⟨ga, rfl, _, hga, _⟩ := hA.form (by omega)
  obtain ⟨gu, rfl, _, hgu, _⟩ := hU.form (by omega)
  have hSa : ¬ S ga := hSA ga (by simp [blk])
  have hSu : ¬ S gu := hSU gu (by simp [blk])
  have hguC : gu ≠ C := fun e => hUC (by simp [blk, e])
  have a0 := hA.cell ncell_len i 0 hil (.pointer (some ⟨N, 0, none⟩)) (by rw [hie]; rfl)
  simp only [Nat.mul_one, Nat.add_zero] at a0
  obtain ⟨Y, hY⟩ : ∃ Y, W.heap[C]? = some Y := ⟨_, hC⟩
  obtain ⟨X, hX⟩ : ∃ X, W.heap[ga]? = some X := ⟨_, Array.getElem?_eq_getElem hga⟩
  have k0 : ∀ w : World, w.heap[C]? = some Y → w.cell? ⟨C, 0, none⟩ = some (.slice (some ⟨ga, 0, none⟩) nds.length ac) := fun w hw => cob (hw.trans (hY.symm.trans hC)) 0 rfl
  have k1 : ∀ w : World, w.heap[C]? = some Y → w.cell? ⟨C, 1, none⟩ = some (.slice (some ⟨gu, 0, none⟩) ups.length uc) := fun w hw => cob (hw.trans (hY.symm.trans hC)) 1 rfl
  have ka : ∀ w : World, w.heap[ga]? = some X → w.cell? ⟨ga, i, none⟩ = some (.pointer (some ⟨N, 0, none⟩)) := fun w hw => (World.cell?_of_block (hw.trans hX.symm)).trans a0
  have HUp := Lib.hid (fun w (hb : Below W.heap.size W w) => up_any C _ v2 v3 v4 v5 v6 _ uc base ups i true hi w ((hb.block C hCl).trans hC) (hU.of_block fun k hk => hb.block k (hU.lt k hk).2))
  have HCr := Lib.hid (fun w (hb : Below W.heap.size W w) K => ncrash_any R S N s me D m rs hrs ld app cl ws dn K w (h.frame hR hb.size fun k hk => hb.block k (hS k hk)))
  have HU := Lib.hid hU
  have d2 : ((i : Nat) : Int) < ((nds.length : Nat) : Int) := by omega
  have d3 : ((i : Nat) : Int) < ((ups.length : Nat) : Int) := by omega
  clear hC hU hA h a0 hi hn hie hue hSA hSU
  obtain ⟨kd, nd, j, full, ⟨cl0, sq, kind, row, col, to, at_, value, expect, has⟩⟩ := x
  simp only at hx
  subst hx
  unfold spv spcells cmcells
  simp only [List.cons_append, List.nil_append]
  go_enter Tryz.func37, Tryz.ntmps37
  go_wp2_with fail
  generalize hw1 : World.alloc W _ = w1
  have hB := named_new hw1.symm
  have hb1 := named_below hw1.symm
  have hz1 : W.heap.size < w1.heap.size := by rw [named_size hw1.symm]; omega
  clear hw1
  obtain ⟨Z, hZ⟩ : ∃ Z, w1.heap[W.heap.size]? = some Z := ⟨_, hB⟩
  have x1 : ∀ w : World, w.heap[W.heap.size]? = some Z → w.cell? ⟨W.heap.size, 1, none⟩ = some (.int .i64 (i : Int)) := fun w hw => cob (hw.trans (hZ.symm.trans hB)) 1 rfl
  have x5 : ∀ w : World, w.heap[W.heap.size]? = some Z → w.cell? ⟨W.heap.size, 5, none⟩ = some (.slice none 0 0) := fun w hw => cob (hw.trans (hZ.symm.trans hB)) 5 rfl
  have hY1 := (hb1.block C hCl).trans hY
  have hX1 := (hb1.block ga hga).trans hX
  have hYd : w1.drew.heap[C]? = some Y := hY1
  have hXd : w1.drew.heap[ga]? = some X := hX1
  have hZd : w1.drew.heap[W.heap.size]? = some Z := hZ
  have HC1 := Lib.hid (HCr.out w1.drew hb1.drew (.slice none 0 0))
  clear hB
  refine (HUp.out w1 hb1).mono ?_
  rintro e w1' ⟨rfl, rfl⟩
  go_wp2
  go_region_held3 (fun w' => w'.heap[C]? = some Y ∧ w'.heap[ga]? = some X ∧ w'.heap[W.heap.size]? = some Z)
    (first | with_reducible exact HS2 | with_reducible exact ⟨hY1, hX1, hZ⟩ | with_reducible exact ⟨hYd, hXd, hZd⟩)
    (first | (go_at_call 75; (with_reducible refine HC1.out.mono ?_); rintro e w2 ⟨rfl, S', hN2, hSt2⟩; have HS2 : _ ∧ _ ∧ _ := ⟨(hSt2.t.block C (Nat.lt_trans hCl hz1) hSC).trans hYd, (hSt2.t.block ga (Nat.lt_trans hga hz1) hSa).trans hXd, (hSt2.t.block W.heap.size hz1 (fun e => by have := hS _ e; omega)).trans hZd⟩))
  have c1 := k1 w2 HS2.1
  have b1 := x1 w2 HS2.2.2
  have hU2 : OwnT bcell 4 1 w2 base (some ⟨gu, 0, none⟩) uc ups := HU.out.of_block fun k hk => by
    have e : gu = k := by simpa [blk] using hk
    subst e
    exact (hSt2.t.block gu (Nat.lt_trans hgu hz1) hSu).trans (hb1.block gu hgu)
  have u0 := hU2.cell bcell_len i 0 hul (.bool ups[i]) rfl
  simp only [Nat.mul_one, Nat.add_zero] at u0
  have f0 := hU2.free i
  have HU2 := Lib.hid hU2
  clear hU2 HS2 hY1 hX1 hYd hXd hZd hZ
  go_wp2
  go_region
  go_wp2
  go_end0
  have h9 := HU2.out.setAt bcell_len i hul false
  simp only [Nat.mul_one, World.setCells, bcell] at h9
  have g9 := setCells_grown gu [.bool false] i w2
  simp only [World.setCells] at g9
  have t1 : Turned S W w1.drew := Turned.of_below hb1.drew
  refine ⟨rfl, S', w2, hN2, ⟨t1.next hSt2.t (fun k h => .inl h), fun k hk => ?_, hSt2.lt⟩, h9.drew, grown_drew g9, by rw [drew_size]; simp⟩
  rcases hSt2.sub k hk with h | h
  · exact .inl h
  · exact .inr (Nat.le_trans (Nat.le_of_lt (by simpa using hz1)) h)
def sentT (due : Nat) : Nat → List Mg → List Pk
  | _, [] => []
  | nx, m :: t => ⟨m, due, nx⟩ :: sentT due (nx + 1) t
theorem sentT_snoc (due : Nat) (m : Mg) : ∀ (L : List Mg) (nx : Nat), sentT due nx (L ++ [m]) = sentT due nx L ++ [⟨m, due, nx + L.length⟩]
  | [], nx => rfl
  | a :: t, nx => by
    rw [List.cons_append, sentT, sentT_snoc due m t (nx + 1), sentT, List.cons_append, List.length_cons, show nx + 1 + t.length = nx + (t.length + 1) by omega]
theorem sentT_len (due : Nat) : ∀ (L : List Mg) (nx : Nat), (sentT due nx L).length = L.length
  | [], _ => rfl
  | _ :: t, nx => by rw [sentT, List.length_cons, List.length_cons, sentT_len due t]
theorem sentT_mem (due : Nat) : ∀ (L : List Mg) (nx : Nat) (q : Pk), q ∈ sentT due nx L → q.due = due ∧ nx ≤ q.no ∧ q.no < nx + L.length ∧ q.m ∈ L
  | [], _, _, h => by cases h
  | m :: t, nx, q, h => by
    rw [sentT] at h
    rcases List.mem_cons.1 h with rfl | h
    · exact ⟨rfl, Nat.le_refl _, by simp, List.mem_cons_self ..⟩
    · obtain ⟨h1, h2, h3, h4⟩ := sentT_mem due t (nx + 1) q h
      exact ⟨h1, by omega, by simp; omega, List.mem_cons_of_mem _ h4⟩
theorem less_late (m : Mg) (due no : Nat) (q : Pk) (h1 : q.due ≤ due) (h2 : q.no < no) : lessB ⟨m, due, no⟩ q = false := by
  have h : 0 ≤ befI ⟨m, due, no⟩ q := by
    unfold befI orI cmpI
    simp only []
    split <;> (repeat' split) <;> omega
  simp only [lessB, decide_eq_false_iff_not]
  omega
theorem csend_any (C : Nat) (v0 v1 v4 v5 v6 : Value) (clock : Nat) (hc : clock < 1000000) (x : Sp) (S : Nat → Prop) (G nx base : Nat) (l : List Pk) (L : List Mg) (A : Option Addr) (cc : Nat) (hlen : l.length + L.length ≤ 400) (hnx : nx + L.length ≤ 900000) (hbef : ∀ q ∈ l, q.due ≤ clock ∧ q.no < nx)
    (W : World) (hC : W.heap[C]? = some (.cells #[v0, v1, .pointer (some ⟨G, 0, none⟩), .int .i64 (clock : Int), v4, v5, v6] 88)) (hP : PlAt W S G nx l) (hS : Lt S W) (hSC : ¬ S C) (hL : OwnT mcells 133 11 W base A cc L) (hSA : ∀ k, blk A = some k → ¬ S k) :
    Calls Tryz.prog 65 #[.pointer (some ⟨C, 0, none⟩), spv x, .slice A L.length cc] W fun e W' => e = .returned (.tuple #[]) ∧ ∃ S', PlAt W' S' G (nx + L.length) (l ++ sentT clock nx L) ∧ Step S W W' S' := by
  have hCl := (Array.getElem?_eq_some_iff.1 hC).1
  obtain ⟨Y, hY⟩ : ∃ Y, W.heap[C]? = some Y := ⟨_, hC⟩
  have k2 : ∀ w : World, w.heap[C]? = some Y → w.cell? ⟨C, 2, none⟩ = some (.pointer (some ⟨G, 0, none⟩)) := fun w hw => cob (hw.trans (hY.symm.trans hC)) 2 rfl
  have HDue := Lib.hid (fun w (hw : w.heap[C]? = some Y) => due_any C v0 v1 (.pointer (some ⟨G, 0, none⟩)) v4 v5 v6 clock hc x w (hw.trans (hY.symm.trans hC)))
  have HSend := Lib.hid (fun S k m w (hk : k < L.length) (h : PlAt w S G (nx + k) (l ++ sentT clock nx (L.take k))) (hS : Lt S w) => psend_any S G (nx + k) (l ++ sentT clock nx (L.take k)) m clock (by rw [List.length_append, sentT_len, List.length_take]; omega) (by omega) (fun q hq => by
    rcases List.mem_append.1 hq with hq | hq
    · have := hbef q hq
      exact less_late _ _ _ _ this.1 (by omega)
    · have := sentT_mem clock _ _ q hq
      rw [List.length_take] at this
      exact less_late _ _ _ _ (by omega) (by omega)) w h hS)
  have HL := Lib.hid hL
  have HSA := Lib.hid hSA
  have HPl := Lib.hid hP
  have HSS := Lib.hid hS
  have hLl : L.length ≤ 400 := by omega
  clear hC hP hL hSA hbef hS hlen hnx
  obtain ⟨kd, nd, i, full, ⟨cl, sq, kind, row, col, to, at_, value, expect, has⟩⟩ := x
  unfold spv spcells cmcells at HDue ⊢
  simp only [List.cons_append, List.nil_append] at HDue ⊢
  go_enter Tryz.func65, Tryz.ntmps65
  go_wp2
  generalize hw1 : World.alloc W _ = w1
  have hB := named_new hw1.symm
  have hb1 := named_below hw1.symm
  have hz1 : W.heap.size < w1.heap.size := by rw [named_size hw1.symm]; omega
  clear hw1
  obtain ⟨Z, hZ⟩ : ∃ Z, w1.heap[W.heap.size]? = some Z := ⟨_, hB⟩
  have x0 : ∀ w : World, w.heap[W.heap.size]? = some Z → w.cell? ⟨W.heap.size, 0, none⟩ = some (.int .i64 kd) := fun w hw => cob (hw.trans (hZ.symm.trans hB)) 0 rfl
  have x1 : ∀ w : World, w.heap[W.heap.size]? = some Z → w.cell? ⟨W.heap.size, 1, none⟩ = some (.int .i64 nd) := fun w hw => cob (hw.trans (hZ.symm.trans hB)) 1 rfl
  have x2 : ∀ w : World, w.heap[W.heap.size]? = some Z → w.cell? ⟨W.heap.size, 2, none⟩ = some (.int .i64 i) := fun w hw => cob (hw.trans (hZ.symm.trans hB)) 2 rfl
  have x3 : ∀ w : World, w.heap[W.heap.size]? = some Z → w.cell? ⟨W.heap.size, 3, none⟩ = some (.int .i64 0) := fun w hw => cob (hw.trans (hZ.symm.trans hB)) 3 rfl
  have x4 : ∀ w : World, w.heap[W.heap.size]? = some Z → w.cell? ⟨W.heap.size, 4, none⟩ = some (.bool full) := fun w hw => cob (hw.trans (hZ.symm.trans hB)) 4 rfl
  have x5 : ∀ w : World, w.heap[W.heap.size]? = some Z → w.cell? ⟨W.heap.size, 5, none⟩ = some (.slice none 0 0) := fun w hw => cob (hw.trans (hZ.symm.trans hB)) 5 rfl
  have x6 : ∀ w : World, w.heap[W.heap.size]? = some Z → w.cell? ⟨W.heap.size, 6, none⟩ = some (.int .i64 cl) := fun w hw => cob (hw.trans (hZ.symm.trans hB)) 6 rfl
  have x7 : ∀ w : World, w.heap[W.heap.size]? = some Z → w.cell? ⟨W.heap.size, 7, none⟩ = some (.int .i64 sq) := fun w hw => cob (hw.trans (hZ.symm.trans hB)) 7 rfl
  have x8 : ∀ w : World, w.heap[W.heap.size]? = some Z → w.cell? ⟨W.heap.size, 8, none⟩ = some (.int .i64 kind) := fun w hw => cob (hw.trans (hZ.symm.trans hB)) 8 rfl
  have x9 : ∀ w : World, w.heap[W.heap.size]? = some Z → w.cell? ⟨W.heap.size, 9, none⟩ = some (.string row) := fun w hw => cob (hw.trans (hZ.symm.trans hB)) 9 rfl
  have x10 : ∀ w : World, w.heap[W.heap.size]? = some Z → w.cell? ⟨W.heap.size, 10, none⟩ = some (.string col) := fun w hw => cob (hw.trans (hZ.symm.trans hB)) 10 rfl
  have x11 : ∀ w : World, w.heap[W.heap.size]? = some Z → w.cell? ⟨W.heap.size, 11, none⟩ = some (.string to) := fun w hw => cob (hw.trans (hZ.symm.trans hB)) 11 rfl
  have x12 : ∀ w : World, w.heap[W.heap.size]? = some Z → w.cell? ⟨W.heap.size, 12, none⟩ = some (.int .i64 at_) := fun w hw => cob (hw.trans (hZ.symm.trans hB)) 12 rfl
  have x13 : ∀ w : World, w.heap[W.heap.size]? = some Z → w.cell? ⟨W.heap.size, 13, none⟩ = some (.string value) := fun w hw => cob (hw.trans (hZ.symm.trans hB)) 13 rfl
  have x14 : ∀ w : World, w.heap[W.heap.size]? = some Z → w.cell? ⟨W.heap.size, 14, none⟩ = some (.string expect) := fun w hw => cob (hw.trans (hZ.symm.trans hB)) 14 rfl
  have x15 : ∀ w : World, w.heap[W.heap.size]? = some Z → w.cell? ⟨W.heap.size, 15, none⟩ = some (.bool has) := fun w hw => cob (hw.trans (hZ.symm.trans hB)) 15 rfl
  have hY1 := (hb1.block C hCl).trans hY
  have HP1 := Lib.hid (HPl.out.frame fun k hk => hb1.block k (HSS.out k hk))
  have HS1 := Lib.hid (show Lt S w1 from fun k hk => Nat.lt_trans (HSS.out k hk) hz1)
  have HB1 := Lib.hid hb1
  clear hB hb1
  go_loopw [10] (fun i wr => ∃ (k : Nat) (S' : Nat → Prop), k ≤ L.length ∧ i = .int .i64 k ∧ PlAt wr S' G (nx + k) (l ++ sentT clock nx (L.take k)) ∧ Step S w1 wr S') (fun i _ => L.length - (intOf i).toNat)
  case atStart => exact ⟨0, S, Nat.zero_le _, rfl, by simpa [sentT] using HP1.out, Step.refl HS1.out⟩
  case round =>
    obtain ⟨k, S', hk, rfl, hP, hSt⟩ := hrel
    have hSC' : ¬ S' C := fun e => by
      rcases hSt.sub C e with h | h
      · exact hSC h
      · omega
    have hYr := (hSt.t.block C (by omega) hSC).trans hY1
    have hZr := (hSt.t.block W.heap.size hz1 (fun e => by have := HSS.out _ e; omega)).trans hZ
    have hzr := hSt.t.size
    by_cases hkn : k < L.length
    · obtain ⟨g, rfl, _, hgl, hcl⟩ := HL.out.form (by omega)
      have hgS : ¬ S g := HSA.out g (by simp [blk])
      obtain ⟨m, hm⟩ : ∃ m, m = L[k] := ⟨_, rfl⟩
      have hget : L[k]? = some m := by rw [hm]; exact List.getElem?_eq_getElem hkn
      have Hget := Lib.hid hget
      have hLr : OwnT mcells 133 11 wr base (some ⟨g, 0, none⟩) cc L := HL.out.of_block fun q hq => by
        have e : g = q := by simpa [blk] using hq
        subst e
        exact (hSt.t.block g (by omega) hgS).trans (HB1.out.block g hgl)
      obtain ⟨a0, a1, a2, a3, a4, ⟨a5, a6, a7, a8, a9⟩⟩ := m
      have q0 := hLr.cell mcells_len k 0 hkn (.int .i64 (a0 : Int)) (by rw [← hm]; rfl)
      have q1 := hLr.cell mcells_len k 1 hkn (.int .i64 (a1 : Int)) (by rw [← hm]; rfl)
      have q2 := hLr.cell mcells_len k 2 hkn (.int .i64 (a2 : Int)) (by rw [← hm]; rfl)
      have q3 := hLr.cell mcells_len k 3 hkn (.int .i64 (a3 : Int)) (by rw [← hm]; rfl)
      have q4 := hLr.cell mcells_len k 4 hkn (.int .i64 (a4 : Int)) (by rw [← hm]; rfl)
      have q5 := hLr.cell mcells_len k 5 hkn (.int .i64 (a5 : Int)) (by rw [← hm]; rfl)
      have q6 := hLr.cell mcells_len k 6 hkn (.int .i64 (a6 : Int)) (by rw [← hm]; rfl)
      have q7 := hLr.cell mcells_len k 7 hkn (.int .i64 (a7 : Int)) (by rw [← hm]; rfl)
      have q8 := hLr.cell mcells_len k 8 hkn (.bool a8) (by rw [← hm]; rfl)
      have q9 := hLr.cell mcells_len k 9 hkn (.string a9) (by rw [← hm]; rfl)
      have q10 := hLr.cell mcells_len k 10 hkn (.slice none 0 0) (by rw [← hm]; rfl)
      simp only [Nat.add_zero] at q0
      have HSend2 := Lib.hid (fun S w h hS => HSend.out S k ⟨a0, a1, a2, a3, a4, ⟨a5, a6, a7, a8, a9⟩⟩ w hkn h hS)
      unfold mgv mcells at HSend2
      simp only [] at HSend2
      have HP := Lib.hid hP
      have HSt := Lib.hid hSt
      clear hLr hm hget hP hSt
      go_wp2
      generalize hw2 : World.alloc wr _ = w2
      have hM := named_new hw2.symm
      have hb2 := named_below hw2.symm
      have hz2 : wr.heap.size < w2.heap.size := by rw [named_size hw2.symm]; omega
      clear hw2
      clear q0 q1 q2 q3 q4 q5 q6 q7 q8 q9 q10
      obtain ⟨V, hV⟩ : ∃ V, w2.heap[wr.heap.size]? = some V := ⟨_, hM⟩
      have m0 : ∀ w : World, w.heap[wr.heap.size]? = some V → w.cell? ⟨wr.heap.size, 0, none⟩ = some (.int .i64 (a0 : Int)) := fun w hw => cob (hw.trans (hV.symm.trans hM)) 0 rfl
      have m1 : ∀ w : World, w.heap[wr.heap.size]? = some V → w.cell? ⟨wr.heap.size, 1, none⟩ = some (.int .i64 (a1 : Int)) := fun w hw => cob (hw.trans (hV.symm.trans hM)) 1 rfl
      have m2 : ∀ w : World, w.heap[wr.heap.size]? = some V → w.cell? ⟨wr.heap.size, 2, none⟩ = some (.int .i64 (a2 : Int)) := fun w hw => cob (hw.trans (hV.symm.trans hM)) 2 rfl
      have m3 : ∀ w : World, w.heap[wr.heap.size]? = some V → w.cell? ⟨wr.heap.size, 3, none⟩ = some (.int .i64 (a3 : Int)) := fun w hw => cob (hw.trans (hV.symm.trans hM)) 3 rfl
      have m4 : ∀ w : World, w.heap[wr.heap.size]? = some V → w.cell? ⟨wr.heap.size, 4, none⟩ = some (.int .i64 (a4 : Int)) := fun w hw => cob (hw.trans (hV.symm.trans hM)) 4 rfl
      have m5 : ∀ w : World, w.heap[wr.heap.size]? = some V → w.cell? ⟨wr.heap.size, 5, none⟩ = some (.int .i64 (a5 : Int)) := fun w hw => cob (hw.trans (hV.symm.trans hM)) 5 rfl
      have m6 : ∀ w : World, w.heap[wr.heap.size]? = some V → w.cell? ⟨wr.heap.size, 6, none⟩ = some (.int .i64 (a6 : Int)) := fun w hw => cob (hw.trans (hV.symm.trans hM)) 6 rfl
      have m7 : ∀ w : World, w.heap[wr.heap.size]? = some V → w.cell? ⟨wr.heap.size, 7, none⟩ = some (.int .i64 (a7 : Int)) := fun w hw => cob (hw.trans (hV.symm.trans hM)) 7 rfl
      have m8 : ∀ w : World, w.heap[wr.heap.size]? = some V → w.cell? ⟨wr.heap.size, 8, none⟩ = some (.bool a8) := fun w hw => cob (hw.trans (hV.symm.trans hM)) 8 rfl
      have m9 : ∀ w : World, w.heap[wr.heap.size]? = some V → w.cell? ⟨wr.heap.size, 9, none⟩ = some (.string a9) := fun w hw => cob (hw.trans (hV.symm.trans hM)) 9 rfl
      have m10 : ∀ w : World, w.heap[wr.heap.size]? = some V → w.cell? ⟨wr.heap.size, 10, none⟩ = some (.slice none 0 0) := fun w hw => cob (hw.trans (hV.symm.trans hM)) 10 rfl
      have hY2 := (hb2.block C (by omega)).trans hYr
      have hZ2 := (hb2.block W.heap.size (by omega)).trans hZr
      have hYd : w2.drew.heap[C]? = some Y := hY2
      have hZd : w2.drew.heap[W.heap.size]? = some Z := hZ2
      have hVd : w2.drew.heap[wr.heap.size]? = some V := hV
      have HD2 := Lib.hid (HDue.out w2.drew hYd)
      have HB2 := Lib.hid hb2
      have hCr : C < w2.heap.size := by omega
      have hWr : W.heap.size < w2.heap.size := by omega
      have hrS : ¬ S' wr.heap.size := fun e => absurd (HSt.out.lt _ e) (Nat.lt_irrefl _)
      have hWS : ¬ S' W.heap.size := fun e => by
        rcases HSt.out.sub _ e with h | h
        · exact absurd (HSS.out _ h) (Nat.lt_irrefl _)
        · omega
      clear hM hYr hZr hb2
      go_region_held3 (fun w' => w'.heap[C]? = some Y ∧ w'.heap[W.heap.size]? = some Z ∧ w'.heap[wr.heap.size]? = some V)
        (first | with_reducible exact HS5 | with_reducible exact HS4 | with_reducible exact ⟨hY2, hZ2, hV⟩ | with_reducible exact ⟨hYd, hZd, hVd⟩)
        (first
          | (have _ := HS4; go_at_call 98; (with_reducible refine (HSend2.out S' w4 HP4.out HL4.out).mono ?_); rintro e w5 ⟨rfl, S5, hP5, hS5⟩; have HS5 : _ ∧ _ ∧ _ := ⟨(hS5.t.block C hCr4 hSC').trans HS4.1, (hS5.t.block W.heap.size hWr4 hWS).trans HS4.2.1, (hS5.t.block wr.heap.size hrr4 hrS).trans HS4.2.2⟩)
          | (go_at_call 72; (with_reducible refine HD2.out.mono ?_); rintro e w4 ⟨rfl, hb4⟩; have HS4 : _ ∧ _ ∧ _ := ⟨(hb4.block C hCr).trans hYd, (hb4.block W.heap.size hWr).trans hZd, (hb4.block wr.heap.size hz2).trans hVd⟩; have hz4 := hb4.size; have hCr4 : C < w4.heap.size := Nat.lt_of_lt_of_le hCr hz4; have hWr4 : W.heap.size < w4.heap.size := Nat.lt_of_lt_of_le hWr hz4; have hrr4 : wr.heap.size < w4.heap.size := Nat.lt_of_lt_of_le hz2 hz4;
             have HP4 := Lib.hid (HP.out.frame fun q hq => (hb4.block q (Nat.lt_trans (HSt.out.lt q hq) hz2)).trans (HB2.out.block q (HSt.out.lt q hq))); have HL4 := Lib.hid (show Lt S' w4 from fun q hq => Nat.lt_of_lt_of_le (Nat.lt_trans (HSt.out.lt q hq) hz2) hz4)))
      have HT := Lib.hid (show Step S w1 w5 S5 from by
        have h2 : Step S' wr w4 S' := Step.of_turned ((Turned.of_below HB2.out).below (below_undrew hb4) (Nat.le_of_lt hz2)) HSt.out.lt
        exact (HSt.out.trans h2).trans hS5)
      have HP5 := Lib.hid (show PlAt w5 S5 G (nx + (k + 1)) (l ++ sentT clock nx (L.take (k + 1))) by
        have h9 : L.take (k + 1) = L.take k ++ [⟨a0, a1, a2, a3, a4, ⟨a5, a6, a7, a8, a9⟩⟩] := by rw [List.take_add_one, Hget.out]; rfl
        rw [h9, sentT_snoc, ← List.append_assoc, List.length_take, Nat.min_eq_left hk, ← Nat.add_assoc]
        exact hP5)
      go_wp2
      go_roundw
      case rel => exact ⟨k + 1, S5, by omega, by go_num, HP5.out, HT.out⟩
      case measure => simp [intOf]; omega
    · obtain rfl : k = L.length := by omega
      rw [List.take_length] at hP
      have HP := Lib.hid hP
      have HSt := Lib.hid hSt
      clear hP hSt
      go_wp2
      go_end0
      exact ⟨rfl, S', HP.out, (Step.of_turned (Turned.of_below HB1.out) HSS.out).trans HSt.out⟩
end Go.Proofs.YtoigogjmhkpdlaaGreat
namespace Go.Proofs.YtoigogjmhkpdlaaGreat
section
variable {α β : Type} (f : α → β) {less : α → α → Bool} {less' : β → β → Bool}
theorem ltG_map (hl : ∀ x y, less' (f x) (f y) = less x y) (l : List α) (a b : Nat) : ltG less' (l.map f) a b = ltG less l a b := by
  unfold ltG
  rw [List.getElem?_map, List.getElem?_map]
  cases l[a]? <;> cases l[b]? <;> simp [hl]
theorem swapG_map (l : List α) (i j : Nat) : swapG (l.map f) i j = (swapG l i j).map f := by
  unfold swapG
  rw [List.getElem?_map, List.getElem?_map]
  cases l[i]? <;> cases l[j]? <;> simp [List.map_set]
theorem pickG_map (hl : ∀ x y, less' (f x) (f y) = less x y) (n : Nat) (l : List α) (i : Nat) : pickG less' n (l.map f) i = pickG less n l i := by
  unfold pickG
  rw [ltG_map f hl]
theorem downG_map (hl : ∀ x y, less' (f x) (f y) = less x y) (n : Nat) : ∀ (k : Nat) (l : List α) (i : Nat), downG less' n k (l.map f) i = (downG less n k l i).map f
  | 0, _, _ => rfl
  | k + 1, l, i => by
    rw [downG, downG, pickG_map f hl, ltG_map f hl, swapG_map]
    split
    · rfl
    · split
      · exact downG_map hl n k _ _
      · rfl
theorem popG_map (hl : ∀ x y, less' (f x) (f y) = less x y) (l : List α) : popG less' (l.map f) = (popG less l).map (fun p => (f p.1, p.2.map f)) := by
  unfold popG
  simp only [List.length_map, swapG_map, downG_map f hl, List.getLast?_map]
  cases (downG less (l.length - 1) (l.length - 1) (swapG l 0 (l.length - 1)) 0).getLast? <;> simp [List.map_dropLast]
end
section
variable {α : Type} {less : α → α → Bool}
theorem swapG_mem (l : List α) (i j : Nat) {x : α} (h : x ∈ swapG l i j) : x ∈ l := by
  unfold swapG at h
  split at h
  · rename_i p q hp hq
    rcases List.mem_or_eq_of_mem_set h with h | rfl
    · rcases List.mem_or_eq_of_mem_set h with h | rfl
      · exact h
      · exact List.mem_of_getElem? hq
    · exact List.mem_of_getElem? hp
  · exact h
theorem downG_mem (n : Nat) : ∀ (k : Nat) (l : List α) (i : Nat) {x : α}, x ∈ downG less n k l i → x ∈ l
  | 0, _, _, _, h => h
  | k + 1, l, i, x, h => by
    rw [downG] at h
    split at h
    · exact h
    · split at h
      · exact swapG_mem l _ _ (downG_mem n k _ _ h)
      · exact h
theorem downG_length (n : Nat) : ∀ (k : Nat) (l : List α) (i : Nat), (downG less n k l i).length = l.length
  | 0, _, _ => rfl
  | k + 1, l, i => by
    rw [downG]
    split
    · rfl
    · split
      · rw [downG_length n k, swapG_len]
      · rfl
theorem popG_mem {l l2 : List α} {p : α} (h : popG less l = some (p, l2)) : p ∈ l ∧ (∀ x ∈ l2, x ∈ l) ∧ l2.length + 1 = l.length := by
  unfold popG at h
  simp only at h
  split at h
  · rename_i q hq
    injection h with h
    injection h with h1 h2
    subst h1
    subst h2
    have hm : ∀ x, x ∈ downG less (l.length - 1) (l.length - 1) (swapG l 0 (l.length - 1)) 0 → x ∈ l := fun x hx => swapG_mem l _ _ (downG_mem _ _ _ _ hx)
    have hne : downG less (l.length - 1) (l.length - 1) (swapG l 0 (l.length - 1)) 0 ≠ [] := fun e => by rw [e] at hq; cases hq
    refine ⟨hm _ (List.mem_of_getLast? hq), fun x hx => hm x (List.dropLast_subset _ hx), ?_⟩
    have h3 := List.length_pos_iff.2 hne
    rw [List.length_dropLast]
    rw [downG_length, swapG_len] at h3 ⊢
    omega
  · cases h
end
def absP (p : Pk) : Mdl.Ap := ⟨absM p.m, p.due, p.no⟩
theorem lessA_abs (p q : Pk) : Mdl.lessA (absP p) (absP q) = lessB p q := by
  unfold Mdl.lessA absP lessB befI orI cmpI
  simp only []
  rw [Bool.eq_iff_iff]
  simp only [Bool.or_eq_true, Bool.and_eq_true, Nat.blt_eq, Nat.beq_eq, decide_eq_true_eq]
  split <;> (repeat' split) <;> omega
theorem pop_abs (l : List Pk) : popG Mdl.lessA (l.map absP) = (popG lessB l).map (fun p => (absP p.1, p.2.map absP)) := popG_map absP lessA_abs l
end Go.Proofs.YtoigogjmhkpdlaaGreat
namespace Go.Proofs.YtoigogjmhkpdlaaGreat.Mdl
open Go.Proofs.YtoigogjmhkpdlaaGreat
def esLen (k : Km) (who : Nat) : Option Nat := match k.nodes[who]? with | some nd => nd.ld.map (·.es.length) | none => none
def slots (k : Km) : List Nat := k.told.map (·.2)
def appUp (k : Km) (who : Nat) : Option (Bool × Nat) := (k.nodes[who]?).map (fun nd => (nd.up, nd.app))
structure Run where
  k : Km
  k1 : Km
  k2 : Km
  k3 : Km
  k4 : Km
  k5 : Km
  k6 : Km
  k7 : Km
  k8 : Km
  u8 : Km
  k9 : Km
  k10 : Km
def runK (K F down : Nat) : Option Run := do
  let n := K + F + F
  let q := K + F
  let k ← leadK q n 0 (newK n)
  let k1 ← crashF n F down 8 1 0 k
  let k2 ← askK n 0 k1
  let k3 ← allK n q 200 k2
  let k4 ← crashOne n 8 1 k3
  let k5 ← askK n 0 k4
  let k6 ← allK n q 200 k5
  let k7 ← tickK q n 0 k6
  let k8 ← allK n q 200 k7
  if n == 1 then some ⟨k, k1, k2, k3, k4, k5, k6, k7, k8, k8, k8, k8⟩
  else do
    let u8 ← upAll n 8 0 k8
    let k9 ← tickK q n 0 u8
    let k10 ← allK n q 200 k9
    some ⟨k, k1, k2, k3, k4, k5, k6, k7, k8, u8, k9, k10⟩
def runOk (n : Nat) (r : Run) : Bool :=
  esLen r.k1 0 == some 0 && esLen r.k4 0 == some 1 && slots r.k1 == [] && slots r.k3 == [0] && slots r.k4 == [0] &&
    (if n == 1 then slots r.k6 == [0, 1] else slots r.k6 == [0] && slots r.k8 == [0] && appUp r.k8 0 == some (true, 1) && slots r.k10 == [0, 1])
def few2 (K F down : Nat) : Bool := match runK K F down with | some r => runOk (K + F + F) r | none => false
def shapes : List (Nat × Nat) := [(1, 0), (2, 0), (3, 0), (4, 0), (5, 0), (6, 0), (7, 0), (1, 1), (2, 1), (3, 1), (4, 1), (5, 1), (1, 2), (2, 2), (3, 2), (1, 3)]
theorem few2_all : shapes.all (fun s => (List.range 256).all (fun d => few2 s.1 s.2 d)) = true := by decide +kernel
def awake2 : Bool :=
  match (do
    let k ← leadK 3 4 2 (newK 4)
    let k2 ← askK 4 2 k
    let k3 ← allK 4 3 200 k2
    some (esLen k 2 == some 0 && slots k == [] && slots k3 == [0]) : Option Bool) with
  | some b => b
  | none => false
theorem awake2_all : awake2 = true := by decide +kernel
theorem awake2_parts : ∃ k k2 k3, leadK 3 4 2 (newK 4) = some k ∧ askK 4 2 k = some k2 ∧ allK 4 3 200 k2 = some k3 ∧ esLen k 2 = some 0 ∧ slots k = [] ∧ slots k3 = [0] := by
  have h := awake2_all
  unfold awake2 at h
  cases h1 : leadK 3 4 2 (newK 4) with
  | none => simp [h1] at h
  | some k =>
    simp only [h1, Option.bind_eq_bind, Option.bind_some] at h
    cases h2 : askK 4 2 k with
    | none => simp [h2] at h
    | some k2 =>
      simp only [h2, Option.bind_some] at h
      cases h3 : allK 4 3 200 k2 with
      | none => simp [h3] at h
      | some k3 =>
        simp only [h3, Option.bind_some, Bool.and_eq_true, beq_iff_eq] at h
        exact ⟨k, k2, k3, rfl, h2, h3, h.1.1, h.1.2, h.2⟩
structure RunIs (K F down : Nat) (r : Run) : Prop where
  h0 : leadK (K + F) (K + F + F) 0 (newK (K + F + F)) = some r.k
  h1 : crashF (K + F + F) F down 8 1 0 r.k = some r.k1
  h2 : askK (K + F + F) 0 r.k1 = some r.k2
  h3 : allK (K + F + F) (K + F) 200 r.k2 = some r.k3
  h4 : crashOne (K + F + F) 8 1 r.k3 = some r.k4
  h5 : askK (K + F + F) 0 r.k4 = some r.k5
  h6 : allK (K + F + F) (K + F) 200 r.k5 = some r.k6
  h7 : tickK (K + F) (K + F + F) 0 r.k6 = some r.k7
  h8 : allK (K + F + F) (K + F) 200 r.k7 = some r.k8
  h9 : K + F + F ≠ 1 → upAll (K + F + F) 8 0 r.k8 = some r.u8 ∧ tickK (K + F) (K + F + F) 0 r.u8 = some r.k9 ∧ allK (K + F + F) (K + F) 200 r.k9 = some r.k10
  e1 : esLen r.k1 0 = some 0
  e4 : esLen r.k4 0 = some 1
  s1 : slots r.k1 = []
  s3 : slots r.k3 = [0]
  s4 : slots r.k4 = [0]
  s6 : K + F + F = 1 → slots r.k6 = [0, 1]
  s8 : K + F + F ≠ 1 → slots r.k6 = [0] ∧ slots r.k8 = [0] ∧ appUp r.k8 0 = some (true, 1) ∧ slots r.k10 = [0, 1]
theorem few2_parts {K F d : Nat} (h : few2 K F d = true) : ∃ r, RunIs K F d r := by
  unfold few2 at h
  cases hr : runK K F d with
  | none => rw [hr] at h; cases h
  | some r =>
    rw [hr] at h
    simp only [] at h
    refine ⟨r, ?_⟩
    simp only [runOk, Bool.and_eq_true, beq_iff_eq] at h
    obtain ⟨⟨⟨⟨⟨a1, a2⟩, a3⟩, a4⟩, a5⟩, a6⟩ := h
    have b6 : K + F + F = 1 → slots r.k6 = [0, 1] := fun e => by rw [if_pos e] at a6; simpa using a6
    have b8 : K + F + F ≠ 1 → slots r.k6 = [0] ∧ slots r.k8 = [0] ∧ appUp r.k8 0 = some (true, 1) ∧ slots r.k10 = [0, 1] := fun e => by
      rw [if_neg e] at a6
      simp only [Bool.and_eq_true, beq_iff_eq] at a6
      exact ⟨a6.1.1.1, a6.1.1.2, a6.1.2, a6.2⟩
    unfold runK at hr
    cases h0 : leadK (K + F) (K + F + F) 0 (newK (K + F + F)) with
    | none => simp [h0] at hr
    | some k =>
    simp only [h0, Option.bind_eq_bind, Option.bind_some] at hr
    cases h1 : crashF (K + F + F) F d 8 1 0 k with
    | none => simp [h1] at hr
    | some k1 =>
    simp only [h1, Option.bind_some] at hr
    cases h2 : askK (K + F + F) 0 k1 with
    | none => simp [h2] at hr
    | some k2 =>
    simp only [h2, Option.bind_some] at hr
    cases h3 : allK (K + F + F) (K + F) 200 k2 with
    | none => simp [h3] at hr
    | some k3 =>
    simp only [h3, Option.bind_some] at hr
    cases h4 : crashOne (K + F + F) 8 1 k3 with
    | none => simp [h4] at hr
    | some k4 =>
    simp only [h4, Option.bind_some] at hr
    cases h5 : askK (K + F + F) 0 k4 with
    | none => simp [h5] at hr
    | some k5 =>
    simp only [h5, Option.bind_some] at hr
    cases h6 : allK (K + F + F) (K + F) 200 k5 with
    | none => simp [h6] at hr
    | some k6 =>
    simp only [h6, Option.bind_some] at hr
    cases h7 : tickK (K + F) (K + F + F) 0 k6 with
    | none => simp [h7] at hr
    | some k7 =>
    simp only [h7, Option.bind_some] at hr
    cases h8 : allK (K + F + F) (K + F) 200 k7 with
    | none => simp [h8] at hr
    | some k8 =>
    simp only [h8, Option.bind_some] at hr
    split at hr
    · rename_i hn
      injection hr with hr
      subst hr
      exact ⟨h0, h1, h2, h3, h4, h5, h6, h7, h8, fun e => absurd (by simpa using hn) e, a1, a2, a3, a4, a5, b6, b8⟩
    · rename_i hn
      cases g8 : upAll (K + F + F) 8 0 k8 with
      | none => simp [g8] at hr
      | some u8 =>
      simp only [g8, Option.bind_some] at hr
      cases g9 : tickK (K + F) (K + F + F) 0 u8 with
      | none => simp [g9] at hr
      | some k9 =>
      simp only [g9, Option.bind_some] at hr
      cases g10 : allK (K + F + F) (K + F) 200 k9 with
      | none => simp [g10] at hr
      | some k10 =>
      simp only [g10, Option.bind_some] at hr
      injection hr with hr
      subst hr
      exact ⟨h0, h1, h2, h3, h4, h5, h6, h7, h8, fun _ => ⟨g8, g9, g10⟩, a1, a2, a3, a4, a5, b6, b8⟩
theorem run_of {K F d : Nat} (hk : 1 ≤ K) (hn : K + 2 * F ≤ 7) (hd : d < 256) : ∃ r, RunIs K F d r := by
  apply few2_parts
  have hs : (K, F) ∈ shapes := by
    have hF : F = 0 ∨ F = 1 ∨ F = 2 ∨ F = 3 := by omega
    rcases hF with rfl | rfl | rfl | rfl
    · have : K = 1 ∨ K = 2 ∨ K = 3 ∨ K = 4 ∨ K = 5 ∨ K = 6 ∨ K = 7 := by omega
      rcases this with rfl | rfl | rfl | rfl | rfl | rfl | rfl <;> decide
    · have : K = 1 ∨ K = 2 ∨ K = 3 ∨ K = 4 ∨ K = 5 := by omega
      rcases this with rfl | rfl | rfl | rfl | rfl <;> decide
    · have : K = 1 ∨ K = 2 ∨ K = 3 := by omega
      rcases this with rfl | rfl | rfl <;> decide
    · have : K = 1 := by omega
      subst this; decide
  have h1 := List.all_eq_true.1 few2_all (K, F) hs
  exact List.all_eq_true.1 h1 d (List.mem_range.2 hd)
end Go.Proofs.YtoigogjmhkpdlaaGreat.Mdl
