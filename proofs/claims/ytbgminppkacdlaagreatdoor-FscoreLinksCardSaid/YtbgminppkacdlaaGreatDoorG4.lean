/- Lemmas of the claim: the machine of the proof and the walks of the program. Conditions: as each says. -/
import Derived.Test.YtbgminppkacdlaaGreatDoorG3
import Derived.ProofKit
import Derived.OpenShut
import Derived.LaidMore
import Derived.Lay
import Derived.SevenTiedAt
import Derived.Stop.Joined
import Derived.Recover
import Derived.Shelf.Strings.Repeat
import Derived.Shelf.Strings.Search1
import Derived.Shelf.Small.Strs
import Derived.Shelf.Strings.Search2
section
/- More rules for rewriting: built values, results in cells, regions without open pairs, slices of interfaces' methods. No condition. -/
namespace Go.AM
variable {P : Program} {ng : Nat} {sp : Special} {Q : AExit → Env → Heap → Prop}
def bldOf (P : Program) (t : TypeId) : Option (List Value × List (Nat × Nat)) := match P.underlying t, zeroL P t with
  | some (.struct fields), some z => if fields.toList.all fun f => (sizeOf? P f.type).isSome then some (z, fields.toList.map fun f => (f.offset, (sizeOf? P f.type).getD 0)) else none
  | some (.array _ e), some z => match sizeOf? P e with
    | some s => some (z, (List.range (z.length / s)).map fun i => (i * s, s))
    | none => none
  | _, _ => none
theorem fillL_congr {p q : Nat → Option (Nat × Nat)} : ∀ (parts : List (Nat × Value)) (cs : List Value), (∀ x ∈ parts, p x.1 = q x.1) → fillL p cs parts = fillL q cs parts := by
  intro parts
  induction parts with
  | nil => intro cs _; rfl
  | cons x r ih =>
    intro cs hx
    obtain ⟨i, v⟩ := x
    rw [fillL, fillL, hx (i, v) (List.mem_cons_self ..)]
    cases q i with
    | none => rfl
    | some y =>
      cases cellsOf v with
      | none => rfl
      | some vs => simp only; rw [ih _ fun x hx' => hx x (List.mem_cons_of_mem _ hx')]
theorem u_build {t : TypeId} {z : List Value} {fs : List (Nat × Nat)} (hb : bldOf P t = some (z, fs)) (parts : List (Nat × Value)) (hp : ∀ x ∈ parts, x.1 < fs.length) : aBuild P t parts = fillL (fun i => fs[i]?) z parts := by
  unfold aBuild
  unfold bldOf at hb
  cases hu : P.underlying t with
  | none => rw [hu] at hb; simp at hb
  | some d =>
    cases hz : zeroL P t with
    | none => rw [hu, hz] at hb; cases d <;> simp at hb
    | some z' =>
      rw [hu, hz] at hb
      cases d <;> first | (simp at hb; done) | skip
      · rename_i n e
        simp only at hb ⊢
        cases hs : sizeOf? P e with
        | none => rw [hs] at hb; simp at hb
        | some s =>
          rw [hs] at hb
          simp only [Option.some.injEq, Prod.mk.injEq] at hb
          obtain ⟨rfl, rfl⟩ := hb
          simp only
          refine fillL_congr parts _ fun x hx => ?_
          have := hp x hx
          rw [List.length_map, List.length_range] at this
          simp [this]
      · rename_i fields
        simp only at hb ⊢
        split at hb
        · rename_i hall
          simp only [Option.some.injEq, Prod.mk.injEq] at hb
          obtain ⟨rfl, rfl⟩ := hb
          rw [if_pos hall]
          refine fillL_congr parts _ fun x hx => ?_
          simp only [List.getElem?_map]
          cases hf : fields.toList[x.1]? with
          | none => rfl
          | some f =>
            simp only [Option.map_some]
            have := List.all_eq_true.1 hall f (List.mem_of_getElem? hf)
            obtain ⟨s, hs⟩ := Option.isSome_iff_exists.1 this
            rw [hs]; rfl
        · cases hb
def aBuildO (P : Program) (t : TypeId) (parts : List (Nat × Value)) : Option (List Value) := aBuild P t parts
theorem u_build' {t : TypeId} {z : List Value} {fs : List (Nat × Nat)} (hb : bldOf P t = some (z, fs)) (parts : List (Nat × Value)) : aBuild P t parts = if parts.all (fun x => Nat.blt x.1 fs.length) = true then fillL (fun i => fs[i]?) z parts else aBuildO P t parts := by
  split
  · rename_i h
    exact u_build hb parts fun x hx => by have := List.all_eq_true.1 h x hx; simpa [Nat.blt_eq] using this
  · rfl
theorem fillL_nil (p : Nat → Option (Nat × Nat)) (cs : List Value) : fillL p cs [] = some cs := rfl
def fillX (p : Nat → Option (Nat × Nat)) (cs : List Value) (r : List (Nat × Value)) (x : Option (Nat × Nat)) (vs : Option (List Value)) : Option (List Value) := match x, vs with
  | some (off, size), some vs => if vs.length = size ∧ off + size ≤ cs.length then fillL p (overL cs off vs) r else none
  | _, _ => none
theorem fillL_cons (p : Nat → Option (Nat × Nat)) (cs : List Value) (i : Nat) (v : Value) (r : List (Nat × Value)) : fillL p cs ((i, v) :: r) = fillX p cs r (p i) (cellsOf v) := rfl
theorem fillX_some (p : Nat → Option (Nat × Nat)) (cs : List Value) (r : List (Nat × Value)) (off size : Nat) (vs : List Value) : fillX p cs r (some (off, size)) (some vs) = if vs.length = size ∧ off + size ≤ cs.length then fillL p (overL cs off vs) r else none := rfl
theorem ret_val (v : Value) : (ret v).map (·.val) = some v := rfl
theorem resultV_cell (e : Env) (h : Heap) (a : Tmp) (t : TypeId) : resultV P e h [.cell a t] = (effLoad P t (e.at a) h.get).map (·.val) := by
  unfold resultV resOne
  simp only
  cases effLoad P t (e.at a) h.get <;> rfl
theorem resAll_cell (e : Env) (h : Heap) (a : Tmp) (t : TypeId) (l : List ResultVar) : resAll P e h (.cell a t :: l) = ((effLoad P t (e.at a) h.get).map (·.val)).bind fun v => (resAll P e h l).map fun vs => v :: vs := by
  rw [resAll]
  unfold resOne
  simp only
  cases effLoad P t (e.at a) h.get <;> cases resAll P e h l <;> rfl
theorem didsOk_nil (l : List Did) : didsOk [] l = true := rfl
theorem bind_some_agg (l : List Value) : (some l).bind (fun a => ret (.agg a.toArray)) = ret (.agg l.toArray) := rfl
end Go.AM
end
section
/- Loops and joins: what a piece of code reaches is told once, and used behind it. No condition. -/
namespace Go.AM
variable {P : Program} {ng : Nat} {sp : Special} {Q : AExit → Env → Heap → Prop}
theorem Run.over {Q' : AExit → Env → Heap → Prop} {K0 K : List Frm} {x : Ctl} {e : Env} {h : Heap} (hr : Run P ng sp Q' K0 x e h) (hk : ∀ ex e h, Q' ex e h → Run P ng sp Q K (.exit ex) e h) : Run P ng sp Q (K0 ++ K) x e h := by
  induction hr with
  | done hq => exact hk _ _ _ hq
  | skip _ ih => exact .skip ih
  | label _ ih => exact .label ih
  | ret _ ih => exact .ret ih
  | goto _ ih => exact .goto ih
  | leave _ ih => exact .leave ih
  | seq _ ih => exact .seq ih
  | cond h1 _ ih => exact .cond h1 ih
  | block _ ih => exact .block ih
  | loop h1 _ ih => exact .loop h1 ih
  | scope _ ih => exact .scope ih
  | region _ ih => exact .region ih
  | draw h1 h2 _ ih => exact .draw h1 h2 ih
  | xseq _ ih => exact .xseq ih
  | xseq' h1 _ ih => exact .xseq' h1 ih
  | xblk _ ih => exact .xblk ih
  | xblk' h1 _ ih => exact .xblk' h1 ih
  | xagain _ ih => exact .xagain ih
  | xagain' h1 _ ih => exact .xagain' h1 ih
  | xscope h1 _ ih => exact .xscope h1 ih
  | xscope' h1 _ ih => exact .xscope' h1 ih
  | onil _ ih => exact .onil ih
  | oskip h1 h2 _ ih => exact .oskip h1 h2 ih
  | oeff h1 h2 h3 h4 _ ih => exact .oeff h1 h2 h3 h4 ih
  | ocall h1 h2 h3 h4 h5 h6 _ ih => exact .ocall h1 h2 h3 h4 h5 h6 ih
  | ocallp h1 h2 h3 h4 h5 h6 _ ih => exact .ocallp h1 h2 h3 h4 h5 h6 ih
  | opanic h1 h2 h3 h4 _ ih => exact .opanic h1 h2 h3 h4 ih
  | rnil h1 _ ih => exact .rnil h1 ih
  | rskip h1 h2 _ ih => exact .rskip h1 h2 ih
  | reff h1 h2 h3 h4 _ ih => exact .reff h1 h2 h3 h4 ih
  | rcall h1 h2 h3 h4 h5 h6 _ ih => exact .rcall h1 h2 h3 h4 h5 h6 ih
theorem run_loop2 {K : List Frm} {body : Code} (hm : (mapLoopOf body).isNone = true) (I : Nat → Env → Heap → Prop) (J : AExit → Env → Heap → Prop)
    (step : ∀ n e h, I n e h → ∀ Q' : AExit → Env → Heap → Prop, (∀ n' e' h', n' < n → I n' e' h' → Q' .normal e' h') → (∀ ex e' h', ex ≠ .normal → J ex e' h' → Q' ex e' h') → Run P ng sp Q' [] (.code body) e h)
    (n : Nat) (e : Env) (h : Heap) (hi : I n e h) (after : ∀ ex e' h', ex ≠ .normal → J ex e' h' → Run P ng sp Q K (.exit ex) e' h') : Run P ng sp Q K (.code (.loop body)) e h := by
  refine run_loop hm I (fun n e h hi ih => ?_) n e h hi
  refine (step n e h hi (fun ex e' h' => (ex = .normal ∧ ∃ n', n' < n ∧ I n' e' h') ∨ (ex ≠ .normal ∧ J ex e' h')) (fun n' e' h' h1 h2 => .inl ⟨rfl, n', h1, h2⟩) (fun ex e' h' h1 h2 => .inr ⟨h1, h2⟩)).over ?_
  rintro ex e' h' (⟨rfl, n', h1, h2⟩ | ⟨h1, h2⟩)
  · exact .xagain (ih n' e' h' h1 h2)
  · exact .xagain' h1 (after ex e' h' h1 h2)
end Go.AM
end
section
/- What was done in a region whose order is open, laid out for rewriting; appends to nothing. No condition but those named. -/
namespace Go.AM
variable {P : Program}
section
variable (ρ : Operand → Value)
theorem foot_load (t : TypeId) (a : Operand) : foot (.load t a) ρ = blkOf (ρ a) := by
  show [a].flatMap (fun x => blkOf (ρ x)) = _
  simp
theorem foot_store (t : TypeId) (a x : Operand) : foot (.store t a x) ρ = blkOf (ρ a) ++ blkOf (ρ x) := by
  show [a, x].flatMap (fun x => blkOf (ρ x)) = _
  simp
theorem foot_conv (s t : TypeId) (x : Operand) : foot (.convert s t x) ρ = blkOf (ρ x) := by
  show [x].flatMap (fun x => blkOf (ρ x)) = _
  simp
theorem foot_bin (op : BinOp) (t : TypeId) (x y : Operand) (u : TypeId) : foot (.binOp op t x y u) ρ = blkOf (ρ x) ++ blkOf (ρ y) := by
  show [x, y].flatMap (fun x => blkOf (ρ x)) = _
  simp
theorem foot_slice (t : TypeId) (x : Operand) : foot (.slice t x none none none) ρ = blkOf (ρ x) := by
  show [x].flatMap (fun x => blkOf (ρ x)) = _
  simp
theorem foot_build (t : TypeId) (qs : Array (Nat × Operand)) : foot (.build t qs) ρ = [] := rfl
theorem foot_mks (t : TypeId) (a b : Operand) : foot (.makeSlice t a b) ρ = [] := rfl
theorem foot_alloc (t : TypeId) : foot (.alloc t) ρ = [] := rfl
theorem foot_box (t : TypeId) (x : Operand) : foot (.box t x) ρ = [] := rfl
theorem foot_buildSlice (t : TypeId) (n : Nat) (qs : Array (Nat × Operand)) : foot (.buildSlice t n qs) ρ = [] := rfl
theorem foot_lookup (t : TypeId) (m k : Operand) (ok : Bool) : foot (.lookup t m k ok) ρ = blkOf (ρ m) ++ blkOf (ρ k) := by
  show [m, k].flatMap (fun x => blkOf (ρ x)) = _
  simp
end
theorem blkOf_ptr (b o : Nat) (s : Option _) : blkOf (.pointer (some ⟨b, o, s⟩)) = [b] := rfl
theorem blkOf_ptrn : blkOf (.pointer none) = [] := rfl
theorem blkOf_slice (b o l c : Nat) (s : Option _) : blkOf (.slice (some ⟨b, o, s⟩) l c) = [b] := rfl
theorem blkOf_slicen (l c : Nat) : blkOf (.slice none l c) = [] := rfl
theorem blkOf_int (k : IntKind) (n : Int) : blkOf (.int k n) = [] := rfl
theorem blkOf_bool (b : Bool) : blkOf (.bool b) = [] := rfl
theorem blkOf_string (s : ByteArray) : blkOf (.string s) = [] := rfl
noncomputable def pairOk (x y : Option Did) : Bool := match x, y with
  | some x, some y => swapOk x y
  | _, _ => true
theorem didsOk_cons (p : Nat × Nat) (ps : List (Nat × Nat)) (l : List Did) : didsOk (p :: ps) l = (pairOk l[p.1]? l[p.2]? && didsOk ps l) := rfl
theorem pairOk_some (x y : Did) : pairOk (some x) (some y) = swapOk x y := rfl
theorem swap_skip (y : Did) : swapOk .skip y = true := rfl
theorem swap_skip' (x : Did) : swapOk x .skip = true := by cases x <;> rfl
theorem swap_ee (r r' : List Nat) (f f' : Eff) (n n' : Nat) : swapOk (.eff r f n) (.eff r' f' n') = (disj (f.wr.map (·.1) ++ newIds n f.nw) (r' ++ (f'.wr.map (·.1) ++ newIds n' f'.nw)) && disj r (f'.wr.map (·.1) ++ newIds n' f'.nw)) := rfl
theorem swap_ce (r : List Nat) (f : Eff) (n : Nat) (h h' : Heap) : swapOk (.call h h') (.eff r f n) = (f.wr.isEmpty && r.all fun b => sameB (h.get b) (h'.get b)) := rfl
theorem swap_ec (r : List Nat) (f : Eff) (n : Nat) (h h' : Heap) : swapOk (.eff r f n) (.call h h') = (f.wr.isEmpty && f.nw.isEmpty && r.all fun b => sameB (h.get b) (h'.get b)) := rfl
theorem sameB_self (x : Option Blk) : sameB x x = true := sameB_of rfl
theorem newIds_nil (n : Nat) : newIds n [] = [] := rfl
theorem newIds_cons (n : Nat) (b : Blk) (r : List Blk) : newIds n (b :: r) = n :: newIds (n + 1) r := rfl
theorem disj_nil (b : List Nat) : disj [] b = true := rfl
theorem disj_nil' (a : List Nat) : disj a [] = true := by unfold disj; simp
theorem disj_cons (x : Nat) (a b : List Nat) : disj (x :: a) b = (!(b.any fun y => Nat.beq x y) && disj a b) := rfl
theorem nbeq_ne {a b : Nat} (h : a ≠ b) : Nat.beq a b = false := by rw [← Bool.not_eq_true, Nat.beq_eq]; exact h

theorem Heap.get_new_at {h : Heap} (x : Blk) {b : Nat} (hb : b ≤ h.nx ∧ h.nx ≤ b) : (h.new x).get b = some x := by rw [Nat.le_antisymm hb.1 hb.2, Heap.get_new_same]
theorem overL_cs (x : Value) (l : List Value) (n : Nat) (vs : List Value) : overL (x :: l) (n + 1) vs = x :: overL l n vs := by
  unfold overL
  rw [List.take_succ_cons, show n + 1 + vs.length = (n + vs.length) + 1 by omega, List.drop_succ_cons]
  rfl
theorem overL_cz (x : Value) (l : List Value) (v : Value) (vs : List Value) : overL (x :: l) 0 (v :: vs) = v :: overL l 0 vs := by
  unfold overL
  simp only [List.take_zero, List.nil_append, List.length_cons, Nat.zero_add]
  rw [List.drop_succ_cons]
  rfl
end Go.AM
end
section
/- The rules for rewriting, tied together. No condition. -/
namespace Go.AM
theorem rb0 : type_of% (And.intro (And.intro (And.intro (And.intro (And.intro (@run_skip) (And.intro (@run_label) (@run_ret))) (And.intro (And.intro (@run_goto) (@run_leave)) (And.intro (@run_seq) (@run_block)))) (And.intro (And.intro (And.intro (@run_scope) (@run_region)) (And.intro (@run_cond) (@runB_true))) (And.intro (And.intro (@runB_false) (@exit_done)) (And.intro (@exit_seq_normal) (@exit_seq_ret))))) (And.intro (And.intro (And.intro (@exit_seq_exit) (And.intro (@exit_seq_goto) (@exit_seq_pan))) (And.intro (And.intro (@exit_blk_normal) (@exit_blk_ret)) (And.intro (@exit_blk_goto) (@exit_blk_pan)))) (And.intro (And.intro (And.intro (@exit_blk_exit) (@exit_again_normal)) (And.intro (@exit_again_ret) (@exit_again_exit))) (And.intro (And.intro (@exit_again_goto) (@exit_again_pan)) (And.intro (@exit_scope_normal) (@exit_scope_ret)))))) (And.intro (And.intro (And.intro (And.intro (@exit_scope_exit) (And.intro (@exit_scope_pan) (@run_nil))) (And.intro (And.intro (@run_guard) (@runG_true)) (And.intro (@runG_false) (@runV_ret)))) (And.intro (And.intro (And.intro (@runV_some) (@afterC_ret)) (And.intro (@rcd_nil) (@rcd_guard))) (And.intro (And.intro (@runGR_true) (@runGR_false)) (And.intro (@runVR_ret) (@runVR_some))))) (And.intro (And.intro (And.intro (@afterR_ret) (And.intro (@at_put) (@put_none))) (And.intro (And.intro (@at_args) (@eval_tmp)) (And.intro (@eval_const) (@eval_global)))) (And.intro (And.intro (And.intro (@eval_func) (@callee_func)) (And.intro (@callee_tmp) (@effPick_true))) (And.intro (And.intro (@effPick_false) (@effNil_ptr)) (And.intro (@effNil_ifc) (@effNil_func))))))) := And.intro (And.intro (And.intro (And.intro (And.intro (@run_skip) (And.intro (@run_label) (@run_ret))) (And.intro (And.intro (@run_goto) (@run_leave)) (And.intro (@run_seq) (@run_block)))) (And.intro (And.intro (And.intro (@run_scope) (@run_region)) (And.intro (@run_cond) (@runB_true))) (And.intro (And.intro (@runB_false) (@exit_done)) (And.intro (@exit_seq_normal) (@exit_seq_ret))))) (And.intro (And.intro (And.intro (@exit_seq_exit) (And.intro (@exit_seq_goto) (@exit_seq_pan))) (And.intro (And.intro (@exit_blk_normal) (@exit_blk_ret)) (And.intro (@exit_blk_goto) (@exit_blk_pan)))) (And.intro (And.intro (And.intro (@exit_blk_exit) (@exit_again_normal)) (And.intro (@exit_again_ret) (@exit_again_exit))) (And.intro (And.intro (@exit_again_goto) (@exit_again_pan)) (And.intro (@exit_scope_normal) (@exit_scope_ret)))))) (And.intro (And.intro (And.intro (And.intro (@exit_scope_exit) (And.intro (@exit_scope_pan) (@run_nil))) (And.intro (And.intro (@run_guard) (@runG_true)) (And.intro (@runG_false) (@runV_ret)))) (And.intro (And.intro (And.intro (@runV_some) (@afterC_ret)) (And.intro (@rcd_nil) (@rcd_guard))) (And.intro (And.intro (@runGR_true) (@runGR_false)) (And.intro (@runVR_ret) (@runVR_some))))) (And.intro (And.intro (And.intro (@afterR_ret) (And.intro (@at_put) (@put_none))) (And.intro (And.intro (@at_args) (@eval_tmp)) (And.intro (@eval_const) (@eval_global)))) (And.intro (And.intro (And.intro (@eval_func) (@callee_func)) (And.intro (@callee_tmp) (@effPick_true))) (And.intro (And.intro (@effPick_false) (@effNil_ptr)) (And.intro (@effNil_ifc) (@effNil_func))))))
theorem rb1 : type_of% (And.intro (And.intro (And.intro (And.intro (And.intro (@effExtract_tuple) (And.intro (@u_min2) (@u_max2))) (And.intro (And.intro (@u_len_slc) (@u_len_str)) (And.intro (@u_len_map) (@mlX_some)))) (And.intro (And.intro (And.intro (@effLoad_ptr) (@ldX_one)) (And.intro (@ldX_agg) (@effStore_ptr))) (And.intro (And.intro (@stX_exact) (@stX_loose)) (And.intro (@stX_bytes) (@opR_some))))) (And.intro (And.intro (And.intro (@effField_ptr) (And.intro (@fldX_some) (@addr_add))) (And.intro (And.intro (@effIdx_arr) (@ixA_some)) (And.intro (@effIdx_slc) (@ixS_some)))) (And.intro (And.intro (And.intro (@u_field) (@fvX_one)) (And.intro (@fvX_agg) (@ivX_some))) (And.intro (And.intro (@effBin_add) (@effBin_sub)) (And.intro (@effBin_mul) (@effBin_quo)))))) (And.intro (And.intro (And.intro (And.intro (@effBin_rem) (And.intro (@effBin_eql) (@effBin_neq))) (And.intro (And.intro (@effBin_lss) (@effBin_leq)) (And.intro (@effBin_gtr) (@effBin_geq)))) (And.intro (And.intro (And.intro (@effBin_shl) (@effBin_shr)) (And.intro (@effBin_and) (@effBin_or))) (And.intro (And.intro (@effBin_andNot) (@effUn_not)) (And.intro (@u_eql_bool) (@u_neq_bool))))) (And.intro (And.intro (And.intro (@u_eql_ptr) (And.intro (@u_neq_ptr) (@u_eql_slc))) (And.intro (And.intro (@u_neq_slc) (@u_eql_ifc)) (And.intro (@u_neq_ifc) (@u_conv)))) (And.intro (And.intro (And.intro (@cvI_int) (@alX_some)) (And.intro (@alY_false) (@effAlloc_eq))) (And.intro (And.intro (@cellsOf_bool) (@cellsOf_int)) (And.intro (@cellsOf_string) (@cellsOf_pointer))))))) := And.intro (And.intro (And.intro (And.intro (And.intro (@effExtract_tuple) (And.intro (@u_min2) (@u_max2))) (And.intro (And.intro (@u_len_slc) (@u_len_str)) (And.intro (@u_len_map) (@mlX_some)))) (And.intro (And.intro (And.intro (@effLoad_ptr) (@ldX_one)) (And.intro (@ldX_agg) (@effStore_ptr))) (And.intro (And.intro (@stX_exact) (@stX_loose)) (And.intro (@stX_bytes) (@opR_some))))) (And.intro (And.intro (And.intro (@effField_ptr) (And.intro (@fldX_some) (@addr_add))) (And.intro (And.intro (@effIdx_arr) (@ixA_some)) (And.intro (@effIdx_slc) (@ixS_some)))) (And.intro (And.intro (And.intro (@u_field) (@fvX_one)) (And.intro (@fvX_agg) (@ivX_some))) (And.intro (And.intro (@effBin_add) (@effBin_sub)) (And.intro (@effBin_mul) (@effBin_quo)))))) (And.intro (And.intro (And.intro (And.intro (@effBin_rem) (And.intro (@effBin_eql) (@effBin_neq))) (And.intro (And.intro (@effBin_lss) (@effBin_leq)) (And.intro (@effBin_gtr) (@effBin_geq)))) (And.intro (And.intro (And.intro (@effBin_shl) (@effBin_shr)) (And.intro (@effBin_and) (@effBin_or))) (And.intro (And.intro (@effBin_andNot) (@effUn_not)) (And.intro (@u_eql_bool) (@u_neq_bool))))) (And.intro (And.intro (And.intro (@u_eql_ptr) (And.intro (@u_neq_ptr) (@u_eql_slc))) (And.intro (And.intro (@u_neq_slc) (@u_eql_ifc)) (And.intro (@u_neq_ifc) (@u_conv)))) (And.intro (And.intro (And.intro (@cvI_int) (@alX_some)) (And.intro (@alY_false) (@effAlloc_eq))) (And.intro (And.intro (@cellsOf_bool) (@cellsOf_int)) (And.intro (@cellsOf_string) (@cellsOf_pointer))))))
theorem rb2 : type_of% (And.intro (And.intro (And.intro (And.intro (And.intro (@cellsOf_slice) (And.intro (@cellsOf_map) (@cellsOf_func))) (And.intro (And.intro (@cellsOf_nilFunc) (@cellsOf_iface)) (And.intro (@cellsOf_nilIface) (@cellsOf_agg)))) (And.intro (And.intro (And.intro (@effMakeSlice_eq) (@mkX_some)) (And.intro (@effSlice_ptr) (@effSlice_slc))) (And.intro (And.intro (@u_bounds) (@bnd_none)) (And.intro (@bnd_int) (@u_sliceAddr))))) (And.intro (And.intro (And.intro (@sadX_exact) (And.intro (@sadX_ro) (@sliceAddr_nil))) (And.intro (And.intro (@u_firstL) (@fsX_some)) (And.intro (@lenV_slc) (@lenV_str)))) (And.intro (And.intro (And.intro (@storable_bool) (@storable_int)) (And.intro (@storable_string) (@storable_pointer))) (And.intro (And.intro (@storable_slice) (@storable_agg)) (And.intro (@storable_iface) (@storable_nilIface)))))) (And.intro (And.intro (And.intro (And.intro (@Heap.get_upd_same) (And.intro (@Heap.get_new_same) (@Heap.nx_upd))) (And.intro (And.intro (@Heap.nx_new) (@Heap.apply_none)) (And.intro (@Heap.apply_wr) (@Heap.apply_nw)))) (And.intro (And.intro (And.intro (@Heap.apply_wr_nw) (@fnQ_normal)) (And.intro (@fnQ_ret) (@fnQ_pan))) (And.intro (And.intro (@resultV_one) (@resultV_nil)) (And.intro (@resultV_two) (@resAll_nil))))) (And.intro (And.intro (And.intro (@resAll_tmp) (And.intro (@fillL_nil) (@fillL_cons))) (And.intro (And.intro (@fillX_some) (@ret_val)) (And.intro (@resultV_cell) (@resAll_cell)))) (And.intro (And.intro (And.intro (@didsOk_nil) (@bind_some_agg)) (And.intro (@Heap.upd_upd) (@foot_load))) (And.intro (And.intro (@foot_store) (@foot_conv)) (And.intro (@foot_bin) (@foot_slice))))))) := And.intro (And.intro (And.intro (And.intro (And.intro (@cellsOf_slice) (And.intro (@cellsOf_map) (@cellsOf_func))) (And.intro (And.intro (@cellsOf_nilFunc) (@cellsOf_iface)) (And.intro (@cellsOf_nilIface) (@cellsOf_agg)))) (And.intro (And.intro (And.intro (@effMakeSlice_eq) (@mkX_some)) (And.intro (@effSlice_ptr) (@effSlice_slc))) (And.intro (And.intro (@u_bounds) (@bnd_none)) (And.intro (@bnd_int) (@u_sliceAddr))))) (And.intro (And.intro (And.intro (@sadX_exact) (And.intro (@sadX_ro) (@sliceAddr_nil))) (And.intro (And.intro (@u_firstL) (@fsX_some)) (And.intro (@lenV_slc) (@lenV_str)))) (And.intro (And.intro (And.intro (@storable_bool) (@storable_int)) (And.intro (@storable_string) (@storable_pointer))) (And.intro (And.intro (@storable_slice) (@storable_agg)) (And.intro (@storable_iface) (@storable_nilIface)))))) (And.intro (And.intro (And.intro (And.intro (@Heap.get_upd_same) (And.intro (@Heap.get_new_same) (@Heap.nx_upd))) (And.intro (And.intro (@Heap.nx_new) (@Heap.apply_none)) (And.intro (@Heap.apply_wr) (@Heap.apply_nw)))) (And.intro (And.intro (And.intro (@Heap.apply_wr_nw) (@fnQ_normal)) (And.intro (@fnQ_ret) (@fnQ_pan))) (And.intro (And.intro (@resultV_one) (@resultV_nil)) (And.intro (@resultV_two) (@resAll_nil))))) (And.intro (And.intro (And.intro (@resAll_tmp) (And.intro (@fillL_nil) (@fillL_cons))) (And.intro (And.intro (@fillX_some) (@ret_val)) (And.intro (@resultV_cell) (@resAll_cell)))) (And.intro (And.intro (And.intro (@didsOk_nil) (@bind_some_agg)) (And.intro (@Heap.upd_upd) (@foot_load))) (And.intro (And.intro (@foot_store) (@foot_conv)) (And.intro (@foot_bin) (@foot_slice))))))
theorem rb3 : type_of% (And.intro (And.intro (And.intro (And.intro (And.intro (@foot_build) (And.intro (@foot_mks) (@foot_alloc))) (And.intro (And.intro (@foot_box) (@foot_buildSlice)) (And.intro (@foot_lookup) (@blkOf_ptr)))) (And.intro (And.intro (And.intro (@blkOf_ptrn) (@blkOf_slice)) (And.intro (@blkOf_slicen) (@blkOf_int))) (And.intro (And.intro (@blkOf_bool) (@blkOf_string)) (And.intro (@didsOk_cons) (@pairOk_some))))) (And.intro (And.intro (And.intro (@swap_skip) (And.intro (@swap_skip') (@swap_ee))) (And.intro (And.intro (@swap_ce) (@swap_ec)) (And.intro (@sameB_self) (@newIds_nil)))) (And.intro (And.intro (And.intro (@newIds_cons) (@disj_nil)) (And.intro (@disj_nil') (@disj_cons))) (And.intro (And.intro (@overL_cs) (@overL_cz)) (And.intro (@overL_nil) (@o_move)))))) (And.intro (And.intro (And.intro (And.intro (@o_assign) (And.intro (@o_pick) (@o_alloc))) (And.intro (And.intro (@o_box) (@o_build)) (And.intro (@o_buildSlice) (@o_load)))) (And.intro (And.intro (And.intro (@o_store) (@o_nilc)) (And.intro (@o_bin) (@o_un))) (And.intro (And.intro (@o_conv) (@o_arrp)) (And.intro (@o_ifc) (@o_fun))))) (And.intro (And.intro (And.intro (@o_mkm) (And.intro (@o_mks) (@o_slice))) (And.intro (And.intro (@o_fieldAddr) (@o_field)) (And.intro (@o_indexAddr) (@o_index)))) (And.intro (And.intro (And.intro (@o_lookup) (@o_mapUpdate)) (And.intro (@o_range) (@o_next))) (And.intro (And.intro (@o_tassert) (@o_extract)) (And.intro (@o_builtin) (@q_move))))))) := And.intro (And.intro (And.intro (And.intro (And.intro (@foot_build) (And.intro (@foot_mks) (@foot_alloc))) (And.intro (And.intro (@foot_box) (@foot_buildSlice)) (And.intro (@foot_lookup) (@blkOf_ptr)))) (And.intro (And.intro (And.intro (@blkOf_ptrn) (@blkOf_slice)) (And.intro (@blkOf_slicen) (@blkOf_int))) (And.intro (And.intro (@blkOf_bool) (@blkOf_string)) (And.intro (@didsOk_cons) (@pairOk_some))))) (And.intro (And.intro (And.intro (@swap_skip) (And.intro (@swap_skip') (@swap_ee))) (And.intro (And.intro (@swap_ce) (@swap_ec)) (And.intro (@sameB_self) (@newIds_nil)))) (And.intro (And.intro (And.intro (@newIds_cons) (@disj_nil)) (And.intro (@disj_nil') (@disj_cons))) (And.intro (And.intro (@overL_cs) (@overL_cz)) (And.intro (@overL_nil) (@o_move)))))) (And.intro (And.intro (And.intro (And.intro (@o_assign) (And.intro (@o_pick) (@o_alloc))) (And.intro (And.intro (@o_box) (@o_build)) (And.intro (@o_buildSlice) (@o_load)))) (And.intro (And.intro (And.intro (@o_store) (@o_nilc)) (And.intro (@o_bin) (@o_un))) (And.intro (And.intro (@o_conv) (@o_arrp)) (And.intro (@o_ifc) (@o_fun))))) (And.intro (And.intro (And.intro (@o_mkm) (And.intro (@o_mks) (@o_slice))) (And.intro (And.intro (@o_fieldAddr) (@o_field)) (And.intro (@o_indexAddr) (@o_index)))) (And.intro (And.intro (And.intro (@o_lookup) (@o_mapUpdate)) (And.intro (@o_range) (@o_next))) (And.intro (And.intro (@o_tassert) (@o_extract)) (And.intro (@o_builtin) (@q_move))))))
theorem rb4 : type_of% (And.intro (And.intro (And.intro (And.intro (And.intro (@q_assign) (@q_pick)) (And.intro (@q_alloc) (@q_box))) (And.intro (And.intro (@q_build) (@q_buildSlice)) (And.intro (@q_load) (And.intro (@q_store) (@q_nilc))))) (And.intro (And.intro (And.intro (@q_bin) (@q_un)) (And.intro (@q_conv) (And.intro (@q_arrp) (@q_ifc)))) (And.intro (And.intro (@q_fun) (@q_mkm)) (And.intro (@q_mks) (And.intro (@q_slice) (@q_fieldAddr)))))) (And.intro (And.intro (And.intro (And.intro (@q_field) (@q_indexAddr)) (And.intro (@q_index) (@q_lookup))) (And.intro (And.intro (@q_mapUpdate) (@q_range)) (And.intro (@q_next) (And.intro (@q_tassert) (@q_extract))))) (And.intro (And.intro (And.intro (@q_builtin) (@o_call)) (And.intro (@o_invoke) (And.intro (@q_callv) (@q_invoke)))) (And.intro (And.intro (@b_len) (@b_append)) (And.intro (@b_copy) (And.intro (@b_clear) (@b_delete))))))) := And.intro (And.intro (And.intro (And.intro (And.intro (@q_assign) (@q_pick)) (And.intro (@q_alloc) (@q_box))) (And.intro (And.intro (@q_build) (@q_buildSlice)) (And.intro (@q_load) (And.intro (@q_store) (@q_nilc))))) (And.intro (And.intro (And.intro (@q_bin) (@q_un)) (And.intro (@q_conv) (And.intro (@q_arrp) (@q_ifc)))) (And.intro (And.intro (@q_fun) (@q_mkm)) (And.intro (@q_mks) (And.intro (@q_slice) (@q_fieldAddr)))))) (And.intro (And.intro (And.intro (And.intro (@q_field) (@q_indexAddr)) (And.intro (@q_index) (@q_lookup))) (And.intro (And.intro (@q_mapUpdate) (@q_range)) (And.intro (@q_next) (And.intro (@q_tassert) (@q_extract))))) (And.intro (And.intro (And.intro (@q_builtin) (@o_call)) (And.intro (@o_invoke) (And.intro (@q_callv) (@q_invoke)))) (And.intro (And.intro (@b_len) (@b_append)) (And.intro (@b_copy) (And.intro (@b_clear) (@b_delete))))))
end Go.AM
end
section
/- Lemmas of the library, tied together for rewriting. No condition. -/
namespace Go.AM
theorem Yk : type_of% (And.intro (And.intro (And.intro (And.intro (And.intro (And.intro (@List.set_cons_zero.{0}) (@List.set_cons_succ.{0})) (And.intro (@List.cons_append.{0}) (@List.nil_append.{0}))) (And.intro (And.intro (@List.append_nil.{0}) (@List.all_cons.{0})) (And.intro (@List.all_nil.{0}) (@List.getElem?_cons_zero.{0})))) (And.intro (And.intro (And.intro (@List.getElem?_cons_succ.{0}) (@List.length_cons.{0})) (And.intro (@List.length_nil.{0}) (@Option.getD_some.{0}))) (And.intro (And.intro (@Option.some.injEq.{0}) (@Option.isNone_some.{0})) (And.intro (@Option.isNone_none.{0}) (@Option.isSome_some.{0}))))) (And.intro (And.intro (And.intro (And.intro (@Option.isSome_none.{0}) (@List.isEmpty_nil.{0})) (And.intro (@List.any_cons.{0}) (@List.any_nil.{0}))) (And.intro (And.intro (@List.drop_zero.{0}) (@List.drop_succ_cons.{0})) (And.intro (@List.take_succ_cons.{0}) (@List.take_zero.{0})))) (And.intro (And.intro (And.intro (@List.take_nil.{0}) (@List.drop_nil.{0})) (And.intro (@List.map_toArray.{0, 0}) (@List.map_cons.{0, 0}))) (And.intro (And.intro (@List.map_nil.{0, 0}) (@Option.map_some.{0, 0})) (And.intro (@Option.map_none.{0, 0}) (And.intro (@Option.bind_some.{0, 0}) (@Nat.blt_eq))))))) (And.intro (And.intro (And.intro (And.intro (And.intro (@decide_eq_true_eq) (@Bool.and_true)) (And.intro (@Bool.true_and) (@Bool.and_self))) (And.intro (And.intro (@Bool.not_true) (@Bool.not_false)) (And.intro (@true_and) (@and_true)))) (And.intro (And.intro (And.intro (@true_or) (@or_true)) (And.intro (@false_or) (@or_false))) (And.intro (And.intro (@Bool.true_eq_false) (@Bool.false_eq_true)) (And.intro (@decide_true) (@decide_false))))) (And.intro (And.intro (And.intro (And.intro (@Int.toNat_natCast) (@Nat.zero_add)) (And.intro (@Nat.add_zero) (@Bool.or_false))) (And.intro (And.intro (@Bool.false_or) (@Bool.and_eq_true)) (And.intro (@exists_eq_left'.{1}) (@ite_true.{1})))) (And.intro (And.intro (And.intro (@ite_false.{1}) (@cond_true.{1})) (And.intro (@cond_false.{1}) (@if_true.{1}))) (And.intro (And.intro (@if_false.{1}) (@ite_true.{0})) (And.intro (@ite_false.{0}) (And.intro (@if_true.{0}) (@if_false.{0})))))))) := (And.intro (And.intro (And.intro (And.intro (And.intro (And.intro (@List.set_cons_zero.{0}) (@List.set_cons_succ.{0})) (And.intro (@List.cons_append.{0}) (@List.nil_append.{0}))) (And.intro (And.intro (@List.append_nil.{0}) (@List.all_cons.{0})) (And.intro (@List.all_nil.{0}) (@List.getElem?_cons_zero.{0})))) (And.intro (And.intro (And.intro (@List.getElem?_cons_succ.{0}) (@List.length_cons.{0})) (And.intro (@List.length_nil.{0}) (@Option.getD_some.{0}))) (And.intro (And.intro (@Option.some.injEq.{0}) (@Option.isNone_some.{0})) (And.intro (@Option.isNone_none.{0}) (@Option.isSome_some.{0}))))) (And.intro (And.intro (And.intro (And.intro (@Option.isSome_none.{0}) (@List.isEmpty_nil.{0})) (And.intro (@List.any_cons.{0}) (@List.any_nil.{0}))) (And.intro (And.intro (@List.drop_zero.{0}) (@List.drop_succ_cons.{0})) (And.intro (@List.take_succ_cons.{0}) (@List.take_zero.{0})))) (And.intro (And.intro (And.intro (@List.take_nil.{0}) (@List.drop_nil.{0})) (And.intro (@List.map_toArray.{0, 0}) (@List.map_cons.{0, 0}))) (And.intro (And.intro (@List.map_nil.{0, 0}) (@Option.map_some.{0, 0})) (And.intro (@Option.map_none.{0, 0}) (And.intro (@Option.bind_some.{0, 0}) (@Nat.blt_eq))))))) (And.intro (And.intro (And.intro (And.intro (And.intro (@decide_eq_true_eq) (@Bool.and_true)) (And.intro (@Bool.true_and) (@Bool.and_self))) (And.intro (And.intro (@Bool.not_true) (@Bool.not_false)) (And.intro (@true_and) (@and_true)))) (And.intro (And.intro (And.intro (@true_or) (@or_true)) (And.intro (@false_or) (@or_false))) (And.intro (And.intro (@Bool.true_eq_false) (@Bool.false_eq_true)) (And.intro (@decide_true) (@decide_false))))) (And.intro (And.intro (And.intro (And.intro (@Int.toNat_natCast) (@Nat.zero_add)) (And.intro (@Nat.add_zero) (@Bool.or_false))) (And.intro (And.intro (@Bool.false_or) (@Bool.and_eq_true)) (And.intro (@exists_eq_left'.{1}) (@ite_true.{1})))) (And.intro (And.intro (And.intro (@ite_false.{1}) (@cond_true.{1})) (And.intro (@cond_false.{1}) (@if_true.{1}))) (And.intro (And.intro (@if_false.{1}) (@ite_true.{0})) (And.intro (@ite_false.{0}) (And.intro (@if_true.{0}) (@if_false.{0}))))))))
theorem Ye : type_of% (And.intro (And.intro (And.intro (@at_put) (@at_args)) (And.intro (@cond_true.{1}) (@cond_false.{1}))) (And.intro (And.intro (@List.getElem?_cons_zero.{0}) (@List.getElem?_cons_succ.{0})) (And.intro (@Option.getD_some.{0}) (@Nat.add_zero)))) := (And.intro (And.intro (And.intro (@at_put) (@at_args)) (And.intro (@cond_true.{1}) (@cond_false.{1}))) (And.intro (And.intro (@List.getElem?_cons_zero.{0}) (@List.getElem?_cons_succ.{0})) (And.intro (@Option.getD_some.{0}) (@Nat.add_zero))))
theorem Yh : type_of% (And.intro (@Heap.get_upd_ne) (And.intro (@Heap.get_new_ne) (@Heap.get_new_at))) := (And.intro (@Heap.get_upd_ne) (And.intro (@Heap.get_new_ne) (@Heap.get_new_at)))
theorem Yc : type_of% (And.intro (And.intro (@Heap.get_upd_same) (@Heap.get_new_same)) (And.intro (@Heap.nx_upd) (@Heap.nx_new))) := (And.intro (And.intro (@Heap.get_upd_same) (@Heap.get_new_same)) (And.intro (@Heap.nx_upd) (@Heap.nx_new)))
theorem Yn : type_of% (And.intro (@Heap.nx_upd) (@Heap.nx_new)) := (And.intro (@Heap.nx_upd) (@Heap.nx_new))
end Go.AM
end
section
/- From a run of the machine to a row. -/
namespace Go.AM
open Go.ChangeShapes Go.WideShapes

variable {P : Program} {W : World} {r : Reach} {base : Nat} {u : TypeId} {x : Value}

/- ## what an argument is made of -/
/- ## what stays -/
def Still (W W' : World) : Prop := W'.os = W.os ∧ W'.output = W.output ∧ ∀ cb : Nat, cb < W.heap.size → W'.heap[cb]? = W.heap[cb]?
theorem Still.kept {W' : World} (h : Still W W') (may : MemPlace → Prop) : W.keptBut W' may := by
  refine ⟨h.1, h.2.1, fun i hi => ?_⟩
  rw [h.2.2 i hi]
  split
  · rename_i c t fr c' t' fr' h1 h2
    rw [h1] at h2
    simp only [Option.some.injEq, Obj.cells.injEq] at h2
    obtain ⟨rfl, rfl, rfl⟩ := h2
    exact ⟨rfl, rfl, rfl, fun _ _ => rfl⟩
  · rename_i es c es' c' h1 h2
    rw [h1] at h2
    simp only [Option.some.injEq, Obj.map.injEq] at h2
    obtain ⟨rfl, rfl⟩ := h2
    exact .inr ⟨rfl, rfl⟩
  · rfl
theorem Still.same {W' : World} (h : Still W W') {p : MemPlace} (hp : p.block < W.heap.size) : W.sameAt W' p := by
  cases p with
  | cell b off =>
    have := h.2.2 b hp
    simp [World.sameAt, World.cell?, this]
  | map b => exact h.2.2 b hp
section
variable {H : Type} {enc : TypeId × Value → H}
theorem trodAll_still {W' : World} {sp : Nat → Bool} {hd : Bool} (hs : Still W W') : ∀ {ts : List TypeId} {vs : List Value} {ds : List (DataW H)} {ps : List MemPlace}, (∀ p ∈ ps, p.block < W.heap.size) →
    DataW.TrodAll enc P W base sp hd ts vs ds ps → DataW.TrodAll enc P W' base sp hd ts vs ds ps
  | [], [], [], _, _, h => h
  | _ :: _, _ :: _, _ :: _, _, hl, ⟨p, q, ⟨n, h1⟩, h2, e⟩ =>
    ⟨p, q, ⟨n, DataW.trod_carry n _ _ _ h1 (fun x hx => hs.same (hl x (by rw [e]; exact List.mem_append_left _ hx)))⟩, trodAll_still hs (fun x hx => hl x (by rw [e]; exact List.mem_append_right _ hx)) h2, e⟩

theorem post_true {T : TypeId → Prop} {f : Func} {s : ChangeSpec} {W' : World} {args : Array Value} {ds gs : List (DataW H)} {before : List MemPlace} {bt : TypeId} (K : Kids P T) (hz : ∀ t e, T t → P.underlying t = some (.slice e) → 0 < P.cellsOf e)
    (hT : ∀ t ∈ f.params.toList, T t) (hb : P.underlying bt = some .bool) (hrt : f.resultTypes = #[bt]) (hvars : s.vars = []) (hg : gs = [])
    (hW : DataW.Whole enc P f.params.toList s.vars false W args.toList ds gs before) (hA : DataW.TrodAll enc P W 0 (fun _ => true) true f.params.toList args.toList ds before)
    (hres : (s.fn H (ds ++ gs)).results = [.lit (.bool true)]) (hargs : (s.fn H (ds ++ gs)).args = ds) (hv : (s.fn H (ds ++ gs)).vars = []) (hs : Still W W') :
    s.post enc P f false true false false W args (.bool true) W' := by
  have hlt := DataW.TrodAll.lt hA
  subst hg
  refine ⟨ds, [], before, [], before, [], hW, ?_, ?_, ?_, hs.kept _, fun h => by cases h⟩
  · rw [hres, hrt]
    exact trodAll_mk1 (Go.RowKit.shut_bool hb true)
  · rw [hargs]
    exact trodAll_still hs hlt (DataW.TrodAll.respare K hz hT hA fun p hp => by simpa using hlt p hp)
  · rw [hv, hvars]
    exact rfl
end

/- ## the call -/
/- ## tokens: ints that are not known -/
def statMp (l : List Stat) : Mp := fun b => (l[b]?).getD .fresh
end Go.AM
end
section
/- Slices of ints as arguments: their first ones are tokens in a block that is read alone. -/
namespace Go.AM
open Go.ChangeShapes Go.WideShapes
variable {P : Program} {W : World}

end Go.AM
end
section
/- Abstract heaps that are given block by block; a call that gives true from such a heap. -/
namespace Go.AM
open Go.ChangeShapes Go.WideShapes
variable {P : Program} {W : World}

noncomputable def blkT (l : List Blk) : Trie Blk → Nat → Trie Blk := List.rec (motive := fun _ => Trie Blk → Nat → Trie Blk) (fun t _ => t) (fun b _ ih t i => ih (t.set i b) (Nat.succ i)) l
noncomputable def listHeap (l : List Blk) : Heap := ⟨blkT l .leaf 0, l.length⟩
theorem get_blkT (l : List Blk) : ∀ (t : Trie Blk) (i k : Nat), (blkT l t i).get k = if i ≤ k ∧ k < i + l.length then l[k - i]? else t.get k := by
  induction l with
  | nil =>
    intro t i k
    show t.get k = _
    rw [if_neg (by simp)]
  | cons b r ih =>
    intro t i k
    show (blkT r (t.set i b) (i + 1)).get k = _
    rw [ih, Trie.get_set]
    simp only [List.length_cons]
    by_cases h : i ≤ k ∧ k < i + (r.length + 1)
    · rw [if_pos h]
      by_cases e : k = i
      · subst e; rw [if_neg (by omega), if_pos rfl]; simp
      · rw [if_pos (by omega)]
        rw [show k - i = (k - (i + 1)) + 1 by omega, List.getElem?_cons_succ]
    · rw [if_neg h, if_neg (by omega), if_neg (by omega)]
theorem listHeap_get (l : List Blk) (k : Nat) : (listHeap l).get k = l[k]? := by
  show (blkT l .leaf 0).get k = _
  rw [get_blkT]
  by_cases h : k < l.length
  · rw [if_pos (by omega)]; simp
  · rw [if_neg (by omega), Trie.get_leaf, List.getElem?_eq_none (by omega)]
theorem listHeap_wf (l : List Blk) : HWf (listHeap l) := fun b hb => by
  have hb : l.length ≤ b := hb
  rw [listHeap_get, List.getElem?_eq_none hb]
theorem statMp_get {st : List Stat} {b : Nat} {s : Stat} (h : statMp st b = s) (hs : s ≠ .fresh) : st[b]? = some s := by
  unfold statMp at h
  cases hb : st[b]? with
  | none => rw [hb] at h; exact absurd h.symm hs
  | some s' => rw [hb] at h; rw [← h]; rfl
theorem true_callsG {cl : Caller} {ng : Nat} (hcl : CallOk P ng cl) {f : FuncId} {args args' : List Value} {H : Heap} {M : Mp} {W : World} (hwf : HWf H) (hrel : ∀ N, H.nx ≤ N → HRel M (mix H N fun _ => none) W) (hg : GlobOk ng M) (hro : ∀ b l, M b = .live l → l.rw = false)
    (hrun : isTrue (cl f args H) = true) (ha : VRels M args args') :
    Calls P f args'.toArray W fun e W' => e = .returned (.bool true) ∧ Still W W' := by
  cases hq : cl f args H with
  | none => rw [hq] at hrun; simp [isTrue] at hrun
  | some q =>
    obtain ⟨o, h'⟩ := q
    rw [hq] at hrun
    have ho : o = .ret (.bool true) := by
      unfold isTrue at hrun
      split at hrun
      · rename_i b _ heq
        simp only [Option.some.injEq, Prod.mk.injEq] at heq
        rw [heq.1, hrun]
      · simp at hrun
    subst ho
    obtain ⟨_, _, hnx, hc⟩ := hcl f args H _ h' hq hwf
    refine (hc h'.nx (fun _ => none) M W args' (Nat.le_refl _) (hrel _ hnx) hg ha).mono ?_
    rintro e W' ⟨m', ⟨v', rfl, hv⟩, _, hst⟩
    cases hv
    refine ⟨rfl, hst.os, hst.out, fun cb hcb => hst.keep cb hcb ?_⟩
    intro b l hl hrw
    rw [hro b l hl] at hrw
    cases hrw
end Go.AM
end
section
/- A listed variable that is a table of ints: what is known of its cells; its block. -/
namespace Go.AM
open Go.ChangeShapes Go.WideShapes
variable {P : Program} {W : World}

theorem laid_table {nm : String} {g t e N : Nat} {k : IntKind} {bs : List Int} (hL : laidMet P [(nm, .agg (bs.map fun b => .lit (.int k b)))] W) (hg : P.globalNamed nm = some g) (ht : (P.globals[g]?).map (·.type) = some t) (hu : P.underlying t = some (.array N e))
    (he : P.underlying e = some (.int k)) (hc : P.cellsOf e = 1) (hct : P.cellsOf t = N) (hlen : bs.length = N) :
    ∃ cs el fr, W.heap[g]? = some (.cells cs el fr) ∧ cs.size = N ∧ ∀ i, i < N → cs[i]? = (bs.map (Value.int k))[i]? := by
  obtain ⟨ps, ⟨g', t', cs, fuel, p, q, hg', ht', hv, hd, _, _⟩, _, _⟩ := hL
  obtain rfl := Option.some.inj (hg.symm.trans hg')
  obtain rfl := Option.some.inj (ht.symm.trans ht')
  obtain ⟨xs, m, _, ex, hcl, hl, hel⟩ := DataW.trod_array hu hd
  have hheap : ∃ el fr, W.heap[g]? = some (.cells cs el fr) := by
    simp only [World.var?, hg, Option.bind_some] at hv
    split at hv <;> try (simp at hv; done)
    rename_i cs' el fr hh
    simp only [Option.some.injEq] at hv
    subst hv
    exact ⟨el, fr, hh⟩
  obtain ⟨el, fr, hh⟩ := hheap
  have hsz : cs.size = N := by rw [← hct, ← hcl]; simp
  refine ⟨cs, el, fr, hh, hsz, fun i hi => ?_⟩
  have hE := hel i hi
  rw [hc, Nat.mul_one, List.getElem?_eq_getElem (by omega)] at hE
  obtain ⟨z, e1, e2, _⟩ := DataW.trod_int he hE
  have e3 : (xs.map (·.1)) = bs.map fun n => .lit (.int k n) := (DataW.agg.inj (Prod.mk.inj ex).1).symm
  have e4 : (xs.map (·.1))[i]? = (bs.map fun n => (DataW.lit (.int k n) : DataW Unit))[i]? := by rw [e3]
  rw [List.getElem?_map, List.getElem?_map, List.getElem?_eq_getElem (by omega : i < xs.length), List.getElem?_eq_getElem (by omega : i < bs.length), e2] at e4
  have hz : z = bs[i]'(by omega) := by
    simp only [Option.map_some, Option.some.injEq, DataW.lit.injEq, Lit.int.injEq, true_and] at e4
    exact e4
  rw [List.getElem?_map, List.getElem?_eq_getElem (by omega : i < bs.length), Option.map_some, ← hz]
  have h0 : ((cs.toList.drop i).take 1)[0]? = some (.int k z) := by rw [e1]; rfl
  have : cs.toList[i]? = some (.int k z) := by simpa using h0
  simpa using this

noncomputable def tabBlk (k : IntKind) (bs : List Int) : Blk := .cells (ofList (bs.map (Value.int k))) bs.length .ro
theorem tab_rel {m : Mp} {g : Nat} {k : IntKind} {bs : List Int} {cs : Array Value} {el : TypeId} {fr : Nat × Nat} (h1 : W.heap[g]? = some (.cells cs el fr)) (h2 : cs.size = bs.length) (h3 : ∀ i, i < bs.length → cs[i]? = (bs.map (Value.int k))[i]?) :
    BRel m W (.live ⟨g, 0, 0, bs.length, bs.length, false⟩) (some (tabBlk k bs)) := by
  refine ⟨rfl, cs, el, fr, h1, h2, by simp, ⟨rfl, rfl⟩, fun i hi => ?_⟩
  have h4 := h3 i hi
  rw [List.getElem?_map, List.getElem?_eq_getElem (by omega : i < bs.length), Option.map_some] at h4
  refine ⟨_, _, ?_, by rw [Nat.zero_add]; exact h4, rfl, .int _ _⟩
  rw [get_ofList, List.getElem?_map, List.getElem?_eq_getElem (by omega : i < bs.length), Option.map_some]
end Go.AM
end
section
/- Seats whose rows list a table: calls from heaps that hold the table at its place (what lies ahead of it: not looked at), then tokens. -/
namespace Go.AM
open Go.ChangeShapes Go.WideShapes
variable {P : Program} {W : World}

noncomputable def doorL (g : Nat) (k : IntKind) (bs : List Int) : List Blk := List.replicate g .dead ++ [tabBlk k bs]
end Go.AM
end
section
/- A function that defers one closure of its own, which recovers: what the two come to, by the machine. -/
namespace Go.AM
variable {P : Program} {ng : Nat}

structure TryCode where
  (fn fnd : Func)
  (r0 g rest : Code)
  (tp td tr t1 : Tmp)
  (et : TypeId)
  (z : Value)

noncomputable def tryEnd (P : Program) (T : TryCode) (cl : Caller) (fuel : Nat) (p v : Value) (h : Heap) : Option (Out × Heap) :=
  match engine P cl fuel T.rest (Env.put (Env.put (storeL .leaf 0 [p]) (some T.tr) v) (some T.t1) v) h with
  | some (.normal, _, h4) => match effLoad P T.et p h4.get with
    | some f => some (.ret f.val, h4)
    | none => none
  | _ => none
noncomputable def tryF (P : Program) (T : TryCode) (fuel : Nat) (cl : Caller) (args : List Value) (h : Heap) : Option (Out × Heap) :=
  match engine P cl fuel T.r0 (storeL .leaf 0 args) h with
  | some (.normal, e0, h0) => match engine P cl fuel T.g e0 h0 with
    | some (.ret, e1, h1) => match resultV P e1 h1 T.fn.results.toList with
      | some v => some (.ret v, h1)
      | none => none
    | some (.normal, e1, h1) => match e1.at T.td with
      | .func (.func f) first captured => match cl f (first.toList ++ captured.toList) h1 with
        | some (.ret _, h2) => match effStore P T.et (e1.at T.tp) T.z h2.get with
          | some f => tryEnd P T cl fuel (e1.at T.tp) .nilIface (h2.apply f)
          | none => none
        | some (.pan v, h2) => tryEnd P T cl fuel (e1.at T.tp) v h2
        | none => none
      | _ => none
    | _ => none
  | _ => none

theorem put_ne {a : Act} {d : Option Tmp} {v : Value} {t : Tmp} (h : d ≠ some t) : (a.put d v).tmps.getD t undef = a.tmps.getD t undef := by
  cases d with
  | none => rfl
  | some d =>
    have : d ≠ t := fun e => h (by rw [e])
    simp [Act.put, Array.getElem?_setIfInBounds_ne this]
theorem put_eq {a : Act} {d : Tmp} {v : Value} (h : d < a.tmps.size) : (a.put (some d) v).tmps.getD d undef = v := by
  simp [Act.put, h]
theorem put_size {a : Act} {d : Option Tmp} {v : Value} : (a.put d v).tmps.size = a.tmps.size := by
  cases d <;> simp [Act.put]
theorem put_def {a : Act} {d : Option Tmp} {v : Value} : (a.put d v).defers = a.defers := by
  cases d <;> rfl
theorem wanted_noneT {o : Oper} (h : o.guard = none) (f : Nat → Option Bool) : Region.wanted o f = true := by simp [Region.wanted, h]

section
variable {T : TryCode} {f fd : FuncId} {i3 i4 i5 i0 : Nat} {mk df mv cal st rc as1 : Oper} {tf t8 : Tmp} {at1 at2 at3 : Array TypeId} {cl : Caller} {fuel : Nat}

theorem tryF_ok (hm : P.follows .mixedOrders = true) (hcl : CallOk P ng cl) (hf : P.funcs[f]? = some T.fn) (hok : T.fn.name != "runtime.NumGoroutine")
    (hb : T.fn.body = some (.seq T.r0 (.seq T.g (.seq (.region i3 #[mk, df] false) (.seq (.region i4 #[mv, cal] false) (.seq (.region i5 #[st] false) .ret))))))
    (hres : T.fn.results = #[.cell T.tp T.et])
    (hmk : mk.op = .makeFunc (.func fd) #[] #[.tmp T.tp] ∧ mk.dst = some tf ∧ mk.guard = none) (hdf : df.op = .defer ⟨.value (.tmp tf), #[], at1⟩ ∧ df.dst = none ∧ df.guard = none)
    (hmv : mv.op = .move (.tmp T.td) ∧ mv.dst = some t8 ∧ mv.guard = none) (hcal : cal.op = .call ⟨.value (.tmp t8), #[], at2⟩ ∧ cal.dst ≠ some T.tp ∧ cal.guard = none)
    (hst : st.op = .store T.et (.tmp T.tp) (.const T.z) ∧ plainV T.z = true ∧ st.dst = none ∧ st.guard = none)
    (hlt : tf < T.fn.ntmps ∧ t8 < T.fn.ntmps ∧ tf ≠ T.tp ∧ t8 ≠ T.tp ∧ tf ≠ T.td)
    (hfd : P.funcs[fd]? = some T.fnd) (hokd : T.fnd.name != "runtime.NumGoroutine") (hbd : T.fnd.body = some (.seq (.region i0 #[rc, as1] false) T.rest)) (hresd : T.fnd.results = #[])
    (hrc : rc.op = .call ⟨.builtin .recover, #[], at3⟩ ∧ rc.dst = some T.tr ∧ rc.guard = none) (has : as1.op = .assign (.tmp T.tr) ∧ as1.dst = some T.t1 ∧ as1.guard = none)
    (hltd : T.tr < T.fnd.ntmps ∧ T.t1 < T.fnd.ntmps) (ok0 : codeOk ng T.fn.ntmps T.r0 = true) (okg : codeOk ng T.fn.ntmps T.g = true) (okr : codeOk ng T.fnd.ntmps T.rest = true) :
    CallOkAt P ng f (tryF P T fuel cl) := by
  have enter : ∀ {f : FuncId} {fn : Func}, P.funcs[f]? = some fn → (fn.name != "runtime.NumGoroutine") = true → (∃ c, fn.body = some c) → Enter P f := by
    intro f fn h1 h2 ⟨c, h3⟩ args w
    simp only [bne_iff_ne, ne_eq] at h2
    simp [callFunc, h1, h2, h3]
  letI i1 : Ds T.fn.ntmps := ⟨[]⟩
  letI i2 : Ds T.fnd.ntmps := ⟨[]⟩
  intro args h o h' hr hwf
  refine ⟨enter hf hok ⟨_, hb⟩, ?_⟩
  -- the way the closure ends it
  have fin : ∀ (p v : Value) (h3 : Heap), tryEnd P T cl fuel p v h3 = some (o, h') → HWf h3 → HWf h' ∧ h3.nx ≤ h'.nx ∧
      ∀ (N : Nat) (F : Nat → Option Blk) (m : Mp) (w : World) (p' v' : Value) (tmps : Array Value) (R : Ending → World → Prop) (u : FrameMode), h'.nx ≤ N → HRel m (mix h3 N F) w → GlobOk ng m → VRel m p p' → VRel m v v' →
        tmps.getD T.tp undef = p' → ((v' = .nilIface ∧ u = .returning) ∨ u = .panicking [{ v := v', recovered := false }]) →
        (∀ m' w' e, ORel m' o e → HRel m' (mix h' N F) w' → Step m w m' w' → R e w') →
        Leaves P T.fn tmps R [{ target := .fn (.func fd) #[p'], args := #[] }] u w := by
    intro p v h3 hr hwf3
    unfold tryEnd at hr
    split at hr <;> try (simp at hr; done)
    rename_i e4 h4 hrun
    split at hr <;> try (simp at hr; done)
    rename_i fl hl
    simp only [Option.some.injEq, Prod.mk.injEq] at hr
    obtain ⟨rfl, rfl⟩ := hr
    obtain ⟨a1, a2, a3⟩ := (engine_ok hm hcl fuel).1 _ _ _ _ _ _ okr hrun hwf3
    refine ⟨a1, a2, fun N F m w p' v' tmps R u hN hh hg hp hv htp hu hR => ?_⟩
    refine ⟨by rcases hu with ⟨_, rfl⟩ | rfl <;> simp, .func fd, #[p'], fd, #[p'], rfl, ?_, ?_⟩
    · show (callFunc fd (#[] ++ #[p'])).run P w = _
      rw [enter hfd hokd ⟨_, hbd⟩]
      rfl
    · refine callsD_of_wpS hfd hbd fun c₀ cs hc => ?_
      apply wpS_seq
      apply wpS_region
      have hsz : ∀ t, t < T.fnd.ntmps → t < (#[p'] ++ Array.replicate (T.fnd.ntmps - (#[p'] : Array Value).size) undef).size := by
        intro t ht
        simp
        omega
      generalize hA : ({ tmps := #[p'] ++ Array.replicate (T.fnd.ntmps - (#[p'] : Array Value).size) undef, defers := [] } : Act) = A
      have hAr : ARel m (Env.at (storeL .leaf 0 [p])) A T.fnd.ntmps := by
        rw [← hA]
        exact args_rel (args := [p]) (args' := [p']) (.cons _ _ _ _ hp .nil) T.fnd.ntmps
      have hAsz : ∀ t, t < T.fnd.ntmps → t < A.tmps.size := by rw [← hA]; exact hsz
      -- what comes behind 'recover'
      have key : ∀ cs' u', cs' = { c₀ with mode := u' } :: cs → settle u' = .returning →
          wpOpsS P #[rc, as1] (Exit.thenS (T.rest.wpS P (bodyPostS P T.fnd c₀ cs fun
            | .returned _, u', w' => Leaves P T.fn tmps R [] (settle u') w'
            | .panicked chain, u', w' => Leaves P T.fn tmps R [] (raised u' chain) w'
            | .outgrown, _, w' => R .outgrown w')) (bodyPostS P T.fnd c₀ cs fun
            | .returned _, u', w' => Leaves P T.fn tmps R [] (settle u') w'
            | .panicked chain, u', w' => Leaves P T.fn tmps R [] (raised u' chain) w'
            | .outgrown, _, w' => R .outgrown w')) [1] (A.put rc.dst v') cs' w := by
        intro cs' u' hcs hset
        have hev : (A.put rc.dst v').eval (.tmp T.tr) = v' := by
          rw [hrc.2.1]
          exact put_eq (hAsz _ hltd.1)
        have hex : (execOp (A.put rc.dst v').eval as1).run P w = .ok (.value v') w := by
          simp only [execOp, has.1, hev, Sem.run_pure]
        unfold wpOpsS
        simp only [List.getElem?_toArray, List.getElem?_cons_succ, List.getElem?_cons_zero]
        rw [if_pos (wanted_noneT has.2.2 _)]
        rw [hex]
        show T.rest.wpS P _ ((A.put rc.dst v').put as1.dst v') cs' w
        apply wpS_of_wp
        have hAr2 : ARel m (Env.at (Env.put (Env.put (storeL .leaf 0 [p]) (some T.tr) v) (some T.t1) v)) ((A.put rc.dst v').put as1.dst v') T.fnd.ntmps := by
          rw [Env.put_at, Env.put_at, hrc.2.1, has.2.1]
          refine (hAr.put hv ?_).put hv ?_
          · intro t ht; cases ht; exact hltd.1
          · intro t ht; cases ht; exact hltd.2
        refine a3 N F m w _ _ hN hh hg hAr2 ?_
        intro m' w' a' x q1 q2 q3 q4
        have : x = .normal := q4
        subst this
        refine ⟨q3.def_, u', hcs, .tuple #[], ?_, ?_⟩
        · rw [results_eq, hresd]; simp
        · show Leaves P T.fn tmps R [] (settle u') w'
          rw [hset]
          obtain ⟨v2, b1, b2⟩ := load_pure q1 a1 hN (hp.mono q2.ext) hl
          refine ⟨v2, ?_, hR m' w' _ ⟨v2, rfl, b2⟩ q1 q2⟩
          rw [results_eq, hres]
          have e1 : (#[ResultVar.cell T.tp T.et].mapM (resSem tmps)).run P w' = .ok #[v2] w' := by
            simp only [Array.mapM_eq_mapM_toList, List.mapM_cons, List.mapM_nil, resSem, htp, Sem.run_map, Sem.run_bind, b1, Result.andThen_ok, Sem.run_pure]
          simp only [Sem.run_bind, e1, Result.andThen_ok, Sem.run_pure]
          rfl
      have hex : (execOp A.eval rc).run P w = .ok .recover w := by
        simp only [execOp, hrc.1, resolve, Sem.run_bind, Sem.run_pure, Result.andThen_ok, invoke]
        rfl
      show wpOpsS P #[rc, as1] _ [0, 1] A (c₀ :: cs) w
      unfold wpOpsS
      simp only [List.getElem?_toArray, List.getElem?_cons_zero]
      rw [if_pos (wanted_noneT hrc.2.2 _)]
      rw [hex]
      rcases hu with ⟨rfl, rfl⟩ | rfl
      · have hrd : recoverD (c₀ :: cs) = none := by simp [recoverD, hc]
        simp only [hrd]
        exact key (c₀ :: cs) .returning (by cases c₀; simp_all) rfl
      · have hrd : recoverD (c₀ :: cs) = some (v', { c₀ with mode := .panicking [{ v := v', recovered := true }] } :: cs) := by simp [recoverD, hc]
        simp only [hrd]
        exact key _ (.panicking [{ v := v', recovered := true }]) rfl rfl
  -- the function itself
  unfold tryF at hr
  split at hr <;> try (simp at hr; done)
  rename_i e0 h0 hr0
  have c0 := (engine_ok hm hcl fuel).1 _ _ _ _ _ _ ok0 hr0 hwf
  obtain ⟨w0, n0, k0⟩ := c0
  split at hr <;> try (simp at hr; done)
  · -- the early end
    rename_i e1 h1 hrg
    obtain ⟨w1, n1, k1⟩ := (engine_ok hm hcl fuel).1 _ _ _ _ _ _ okg hrg w0
    split at hr <;> try (simp at hr; done)
    rename_i v hv
    simp only [Option.some.injEq, Prod.mk.injEq] at hr
    obtain ⟨rfl, rfl⟩ := hr
    refine ⟨w1, Nat.le_trans n0 n1, fun N F m w args' hN hh hg ha => calls_of_wp_defers hf hb (wp_seq ?_)⟩
    refine k0 N F m w _ _ (Nat.le_trans n1 hN) hh hg (args_rel ha _) ?_
    intro m1 x1 a1 x q1 q2 q3 q4
    have : x = .normal := q4
    subst this
    refine wp_seq ?_
    refine k1 N F m1 x1 a1 _ hN q1 (hg.mono q2.ext) q3 ?_
    intro m2 x2 a2 x p1 p2 p3 p4
    have : x = .ret := p4
    subst this
    show Leaves P T.fn a2.tmps _ a2.defers .returning x2
    rw [p3.def_]
    obtain ⟨v', r1, r2⟩ := resultV_ok p1 w1 hN p3 hv
    exact ⟨v', r1, m2, ⟨v', rfl, r2⟩, p1, q2.trans p2⟩
  · rename_i e1 h1 hrg
    obtain ⟨w1, n1, k1⟩ := (engine_ok hm hcl fuel).1 _ _ _ _ _ _ okg hrg w0
    split at hr <;> try (simp at hr; done)
    rename_i fc first captured hdo
    -- what is done up to the call, then what is known of the call
    have front : ∀ (h2 : Heap) (oc : Out), cl fc (first.toList ++ captured.toList) h1 = some (oc, h2) → HWf h2 ∧ h1.nx ≤ h2.nx ∧
        ∀ (N : Nat) (F : Nat → Option Blk) (m : Mp) (w : World) (args' : List Value) (R : Ending → World → Prop), h2.nx ≤ N → HRel m (mix h N F) w → GlobOk ng m → VRels m args args' →
          (∀ m' w' (a : Act) p', HRel m' (mix h2 N F) w' → Step m w m' w' → VRel m' (e1.at T.tp) p' → a.tmps.getD T.tp undef = p' → a.defers = [{ target := .fn (.func fd) #[p'], args := #[] }] → a.tmps.size ≥ T.fn.ntmps →
            (match oc with
              | .ret _ => (Code.seq (.region i5 #[st] false) .ret).wp P (bodyPostD P T.fn R) a w'
              | .pan v => ∀ v', VRel m' v v' → Leaves P T.fn a.tmps R a.defers (.panicking [{ v := v', recovered := false }]) w')) →
          Calls P f args'.toArray w R := by
      intro h2 oc hq
      obtain ⟨hen, w2, n2, hcall⟩ := hcl _ _ _ _ _ hq w1
      refine ⟨w2, n2, fun N F m w args' R hN hh hg ha hK => calls_of_wp_defers hf hb (wp_seq ?_)⟩
      refine k0 N F m w _ _ (by omega) hh hg (args_rel ha _) ?_
      intro m1 x1 a1 x q1 q2 q3 q4
      have : x = .normal := q4
      subst this
      refine wp_seq ?_
      refine k1 N F m1 x1 a1 _ (by omega) q1 (hg.mono q2.ext) q3 ?_
      intro m2 x2 a2 x p1 p2 p3 p4
      have : x = .normal := p4
      subst this
      have hst2 := q2.trans p2
      -- the closure is made and deferred
      refine wp_seq (wp_region ?_)
      show wpOps P #[mk, df] _ [0, 1] a2 x2
      generalize hp' : a2.tmps.getD T.tp undef = p'
      have hvp : VRel m2 (e1.at T.tp) p' := by rw [← hp']; exact p3.tm T.tp
      refine wpOps_step (o := mk) rfl (wanted_noneT hmk.2.2 _) ?_
      have e1mk : a2.eval (.tmp T.tp) = p' := hp'
      refine op_value (w' := x2) (v := .func (.func fd) #[] #[p']) ?_ ?_
      · simp [execOp, hmk.1, Instr.makeFunc, e1mk]
      refine wpOps_step (o := df) rfl (wanted_noneT hdf.2.2 _) ?_
      have hev : (a2.put mk.dst (.func (.func fd) #[] #[p'])).eval (.tmp tf) = .func (.func fd) #[] #[p'] := by
        rw [hmk.2.1]
        exact put_eq (Nat.lt_of_lt_of_le hlt.1 p3.size)
      unfold Oper.wp
      have hexd : (execOp (a2.put mk.dst (.func (.func fd) #[] #[p'])).eval df).run P x2 = .ok (.defer { target := .fn (.func fd) #[p'], args := #[] }) x2 := by
        simp [execOp, hdf.1, resolve, hev, Deferred.ofValue]
      rw [hexd]
      rw [Oper.upon_defer]
      rw [hdf.2.1, put_def, p3.def_]
      generalize hA3 : (Act.put { (a2.put mk.dst (.func (.func fd) #[] #[p'])) with defers := [{ target := .fn (.func fd) #[p'], args := #[] }] } none undef) = a3
      have t3 : ∀ t, t ≠ tf → a3.tmps.getD t undef = a2.tmps.getD t undef := by
        intro t ht
        rw [← hA3]
        show (a2.put mk.dst (.func (.func fd) #[] #[p'])).tmps.getD t undef = _
        rw [hmk.2.1]
        exact put_ne (by simpa using Ne.symm ht)
      have s3 : a3.tmps.size = a2.tmps.size := by
        rw [← hA3]
        show (a2.put mk.dst (.func (.func fd) #[] #[p'])).tmps.size = _
        exact put_size
      have d3 : a3.defers = [{ target := .fn (.func fd) #[p'], args := #[] }] := by rw [← hA3]; rfl
      -- the call
      refine wp_seq (wp_region ?_)
      show wpOps P #[mv, cal] _ [0, 1] a3 x2
      refine wpOps_step (o := mv) rfl (wanted_noneT hmv.2.2 _) ?_
      have hvd : VRel m2 (.func (.func fc) first captured) (a3.eval (.tmp T.td)) := by
        show VRel m2 _ (a3.tmps.getD T.td undef)
        rw [t3 _ (Ne.symm hlt.2.2.2.2), ← hdo]
        exact p3.tm T.td
      generalize hdv : a3.eval (.tmp T.td) = dv at hvd
      refine op_value (w' := x2) (v := dv) (by simp only [execOp, hmv.1, hdv, Sem.run_pure]) ?_
      refine wpOps_step (o := cal) rfl (wanted_noneT hcal.2.2 _) ?_
      have hev8 : (a3.put mv.dst dv).eval (.tmp t8) = dv := by
        rw [hmv.2.1]
        exact put_eq (Nat.lt_of_lt_of_le hlt.2.1 (by rw [s3]; exact p3.size))
      cases hvd with
      | func _ _ _ first' captured' g1 g2 =>
      unfold Oper.wp
      have hexc : (execOp (a3.put mv.dst (.func (.func fc) first' captured')).eval cal).run P x2 = .ok (.enter fc (first'.toList ++ captured'.toList).toArray) x2 := by
        simp only [execOp, hcal.1, resolve, hev8, Deferred.ofValue, Sem.run_bind, Sem.run_pure, Result.andThen_ok, invoke]
        rw [hen]
        congr 2
        apply Array.ext'
        simp
      rw [hexc]
      show Calls P fc _ x2 _
      refine (hcall N F m2 x2 _ hN p1 (hg.mono hst2.ext) (g1.append g2)).mono ?_
      rintro e x3 ⟨m3, ho, r1, r2⟩
      have base : ∀ a4 : Act, a4.tmps.getD T.tp undef = a3.tmps.getD T.tp undef → a4.defers = a3.defers → a4.tmps.size = a3.tmps.size → (match (generalizing := false) oc with
              | .ret _ => (Code.seq (.region i5 #[st] false) .ret).wp P (bodyPostD P T.fn R) a4 x3
              | .pan v => ∀ v', VRel m3 v v' → Leaves P T.fn a4.tmps R a4.defers (.panicking [{ v := v', recovered := false }]) x3) := by
        intro a4 z1 z2 z3
        refine hK m3 x3 a4 p' r1 (hst2.trans r2) (hvp.mono r2.ext) ?_ (by rw [z2, d3]) (by rw [z3, s3]; exact p3.size)
        rw [z1, t3 _ (Ne.symm hlt.2.2.1), hp']
      cases oc with
      | ret v =>
        obtain ⟨v', rfl, hv'⟩ := ho
        show (Code.seq (.region i5 #[st] false) .ret).wp P (bodyPostD P T.fn R) ((a3.put mv.dst _).put cal.dst v') x3
        refine base _ ?_ ?_ ?_
        · rw [put_ne hcal.2.1, put_ne (by rw [hmv.2.1]; simpa using hlt.2.2.2.1)]
        · rw [put_def, put_def]
        · rw [put_size, put_size]
      | pan v =>
        obtain ⟨v', rfl, hv'⟩ := ho
        show Leaves P T.fn (a3.put mv.dst _).tmps R (a3.put mv.dst _).defers (.panicking [{ v := v', recovered := false }]) x3
        exact base (a3.put mv.dst _) (put_ne (by rw [hmv.2.1]; simpa using hlt.2.2.2.1)) put_def put_size v' hv'
    split at hr <;> try (simp at hr; done)
    · -- it returned
      rename_i vr h2 hq
      obtain ⟨w2, n2, hfront⟩ := front _ _ hq
      split at hr <;> try (simp at hr; done)
      rename_i fs hfs
      have hap := HWf.apply w2 (f := fs) (eff_ok (op := .store T.et (.tmp T.tp) (.const T.z)) (ρ := fun y => match y with | .tmp t => e1.at t | .const v => v | .global g => .pointer (some ⟨g, 0, none⟩) | .func f => .func (.func f) #[] #[]) (nx := h2.nx) hfs)
      obtain ⟨w3, n3, hfin⟩ := fin _ _ _ hr hap.1
      refine ⟨w3, by omega, fun N F m w args' hN hh hg ha => hfront N F m w args' _ (by omega) hh hg ha ?_⟩
      intro m2 x2 a p' b1 b2 b3 b4 b5 b6
      show (Code.seq (.region i5 #[st] false) .ret).wp P _ a x2
      refine wp_seq (wp_region ?_)
      show wpOps P #[st] _ [0] a x2
      refine wpOps_step (o := st) rfl (wanted_noneT hst.2.2.2 _) ?_
      have heff : eff P st.op (fun y => match y with | .tmp t => e1.at t | .const v => v | .global g => .pointer (some ⟨g, 0, none⟩) | .func f => .func (.func f) #[] #[]) h2.get h2.nx = some fs := by
        rw [hst.1]; exact hfs
      obtain ⟨r, x3, m3, v3, g1, g2, g3, g4, g5⟩ := eff_does (ρ' := a.eval) b1 w2 (by omega) (by omega) (by
        rw [hst.1]
        intro y hy
        simp only [Op.operands] at hy
        rcases List.mem_cons.1 hy with rfl | hy
        · show VRel m2 (e1.at T.tp) (a.tmps.getD T.tp undef)
          rw [b4]; exact b3
        · rcases List.mem_cons.1 hy with rfl | hy
          · exact plainV_rel hst.2.1
          · simp at hy) heff
      have fin2 : ∀ v3', wpOps P #[st] (Exit.then (Code.ret.wp P (bodyPostD P T.fn fun e w' => ∃ m', ORel m' o e ∧ HRel m' (mix h' N F) w' ∧ Step m w m' w')) (bodyPostD P T.fn fun e w' => ∃ m', ORel m' o e ∧ HRel m' (mix h' N F) w' ∧ Step m w m' w')) [] (a.put st.dst v3') x3 := by
        intro v3'
        show Code.ret.wp P _ (a.put st.dst v3') x3
        refine wp_ret ?_
        show Leaves P T.fn (a.put st.dst v3').tmps _ (a.put st.dst v3').defers .returning x3
        rw [put_def, b5]
        refine hfin N F m3 x3 p' .nilIface _ _ .returning hN g4 (hg.mono (b2.trans g5).ext) (b3.mono g5.ext) .nilIface (by rw [put_ne (by rw [hst.2.2.1]; simp)]; exact b4) (.inl ⟨rfl, rfl⟩) ?_
        intro m4 x4 e u1 u2 u3
        exact ⟨m4, u1, u2, (b2.trans g5).trans u3⟩
      unfold Oper.wp
      rw [g1]
      rcases g2 with rfl | ⟨rfl, rfl⟩
      · exact fin2 _
      · exact fin2 _
    · -- it panicked
      rename_i vp h2 hq
      obtain ⟨w2, n2, hfront⟩ := front _ _ hq
      obtain ⟨w3, n3, hfin⟩ := fin _ _ _ hr w2
      refine ⟨w3, by omega, fun N F m w args' hN hh hg ha => hfront N F m w args' _ (by omega) hh hg ha ?_⟩
      intro m2 x2 a p' b1 b2 b3 b4 b5 b6
      show ∀ v', VRel m2 vp v' → Leaves P T.fn a.tmps _ a.defers (.panicking [{ v := v', recovered := false }]) x2
      intro v' hv'
      rw [b5]
      refine hfin N F m2 x2 p' v' _ _ _ hN b1 (hg.mono b2.ext) b3 hv' b4 (.inr rfl) ?_
      intro m4 x4 e u1 u2 u3
      exact ⟨m4, u1, u2, b2.trans u3⟩
end
/- ## taken from the functions' texts -/
def seqL : Code → Code
  | .seq a _ => a
  | c => c
def seqR : Code → Code
  | .seq _ b => b
  | c => c
def opOf : Code → Nat → Oper
  | .region _ ops _, i => (ops.toList[i]?).getD { dst := none, op := .ready 0, type := 0, pos := "", after := #[], guard := none }
  | _, _ => { dst := none, op := .ready 0, type := 0, pos := "", after := #[], guard := none }
def bodyOf (f : Func) : Code := match f.body with
  | some c => c
  | none => .skip
def oneSpec (f0 : FuncId) (F : Caller → List Value → Heap → Option (Out × Heap)) : Special := fun f => cond (Nat.beq f f0) (some F) none
theorem oneSpec_ok {f0 : FuncId} {F : Caller → List Value → Heap → Option (Out × Heap)} (h : ∀ cl, CallOk P ng cl → CallOkAt P ng f0 (F cl)) : SpecOk P ng (oneSpec f0 F) := by
  intro f G hG cl hcl
  unfold oneSpec at hG
  cases hb : Nat.beq f f0 with
  | false => rw [hb] at hG; simp at hG
  | true =>
    rw [hb] at hG
    simp only [cond_true, Option.some.injEq] at hG
    subst hG
    have := Nat.eq_of_beq_eq_true hb
    subst this
    exact h cl hcl
end Go.AM
end
section
/- A function that defers one closure which recovers, in walks: what it comes to if its pieces come to what is said. No condition. -/
namespace Go.AM
variable {P : Program} {ng : Nat} {sp : Special}
open Classical in
noncomputable def tryW (P : Program) (T : TryCode) (cl : Caller) (args : List Value) (h : Heap) : Option (Out × Heap) :=
  if H : ∃ r N, ∀ n, N ≤ n → tryF P T n cl args h = some r then some H.choose else none
theorem tryW_eq {T : TryCode} {cl : Caller} {args : List Value} {h : Heap} {r : Out × Heap} (H : ∃ N, ∀ n, N ≤ n → tryF P T n cl args h = some r) : tryW P T cl args h = some r := by
  have H' : ∃ r N, ∀ n, N ≤ n → tryF P T n cl args h = some r := ⟨r, H⟩
  unfold tryW
  rw [dif_pos H']
  obtain ⟨N, hN⟩ := H
  obtain ⟨M, hM⟩ := H'.choose_spec
  have h1 := hM (max N M) (by omega)
  rw [hN _ (by omega)] at h1
  exact h1.symm
theorem tryW_ok {T : TryCode} {cl : Caller} {f : FuncId} (H : ∀ fuel, CallOkAt P ng f (tryF P T fuel cl)) : CallOkAt P ng f (tryW P T cl) := by
  intro args h o h' hr hwf
  unfold tryW at hr
  split at hr
  · rename_i H'
    obtain ⟨N, hN⟩ := H'.choose_spec
    have h1 := hN N (Nat.le_refl _)
    rw [Option.some.inj hr] at h1
    exact H N args h o h' h1 hwf
  · cases hr
def TryE (P : Program) (ng : Nat) (sp : Special) (T : TryCode) (R : Out → Heap → Prop) (p v : Value) (h : Heap) : Prop :=
  Run P ng sp (fun ex _ h4 => ex = .normal ∧ ∃ f, effLoad P T.et p h4.get = some f ∧ R (.ret f.val) h4) [] (.code T.rest) (Env.put (Env.put (storeL .leaf 0 [p]) (some T.tr) v) (some T.t1) v) h
def TryC (P : Program) (ng : Nat) (sp : Special) (T : TryCode) (R : Out → Heap → Prop) (p : Value) (o : Out) (h : Heap) : Prop := match o with
  | .ret _ => ∃ fs, effStore P T.et p T.z h.get = some fs ∧ TryE P ng sp T R p .nilIface (h.apply fs)
  | .pan v => TryE P ng sp T R p v h
def TryQ (P : Program) (ng : Nat) (sp : Special) (T : TryCode) (R : Out → Heap → Prop) (ex : AExit) (e : Env) (h : Heap) : Prop := match ex with
  | .ret => ∃ v, resultV P e h T.fn.results.toList = some v ∧ R (.ret v) h
  | .normal => ∃ fc first captured, e.at T.td = .func (.func fc) first captured ∧ WF P ng sp fc (first.toList ++ captured.toList) h (TryC P ng sp T R (e.at T.tp))
  | _ => False
theorem wf_try {T : TryCode} {f : FuncId} {args : List Value} {h : Heap} {R : Out → Heap → Prop} (hsp : sp f = some fun cl => tryW P T cl)
    (hr : Run P ng sp (fun ex e h => ex = .normal ∧ Run P ng sp (TryQ P ng sp T R) [] (.code T.g) e h) [] (.code T.r0) (storeL .leaf 0 args) h) : WF P ng sp f args h R := by
  have go : ∀ {o h'}, (∃ N, ∀ fu d n, N ≤ fu → N ≤ d → N ≤ n → tryF P T n (acall P ng sp fu d) args h = some (o, h')) → R o h' → WF P ng sp f args h R := fun {o h'} hN hR => by
    obtain ⟨N, hN⟩ := hN
    refine ⟨o, h', ⟨N + 1, fun fu d h1 h2 => ?_⟩, hR⟩
    obtain ⟨d, rfl⟩ : ∃ k, d = k + 1 := ⟨d - 1, by omega⟩
    rw [acall_succ]
    unfold callF
    rw [hsp]
    exact tryW_eq ⟨N, fun n hn => hN fu d n (by omega) (by omega) hn⟩
  obtain ⟨ex0, e0, h0, ⟨N0, E0⟩, rfl, hg⟩ := hr.sem
  obtain ⟨ex1, e1, h1, ⟨N1, E1⟩, hq⟩ := hg.sem
  have hq : TryQ P ng sp T R ex1 e1 h1 := hq
  have ended : ∀ {p v : Value} {h2 : Heap}, TryE P ng sp T R p v h2 → ∃ f h4 N, (∀ fu d n, N ≤ fu → N ≤ d → N ≤ n → tryEnd P T (acall P ng sp fu d) n p v h2 = some (.ret f, h4)) ∧ R (.ret f) h4 := fun {p v h2} ht => by
    obtain ⟨ex4, e4, h4, ⟨N4, E4⟩, rfl, f, hf, hR⟩ := Run.sem ht
    refine ⟨f.val, h4, N4, fun fu d n a b c => ?_, hR⟩
    unfold tryEnd
    rw [E4 fu d n a b c]
    simp only [hf]
  cases ex1 with
  | ret =>
    obtain ⟨v, hv, hR⟩ := hq
    refine go ⟨max N0 N1, fun fu d n a b c => ?_⟩ hR
    unfold tryF
    rw [E0 fu d n (by omega) (by omega) (by omega)]
    simp only [E1 fu d n (by omega) (by omega) (by omega), hv]
  | normal =>
    obtain ⟨fc, first, captured, hd, oc, h2, ⟨N2, E2⟩, hc⟩ := hq
    cases oc with
    | ret v =>
      obtain ⟨fs, hfs, ht⟩ := hc
      obtain ⟨w, h4, N4, E4, hR⟩ := ended ht
      refine go ⟨max (max N0 N1) (max N2 N4), fun fu d n a b c => ?_⟩ hR
      unfold tryF
      rw [E0 fu d n (by omega) (by omega) (by omega)]
      simp only [E1 fu d n (by omega) (by omega) (by omega), hd, E2 fu d (by omega) (by omega), hfs]
      exact E4 fu d n (by omega) (by omega) (by omega)
    | pan v =>
      obtain ⟨w, h4, N4, E4, hR⟩ := ended hc
      refine go ⟨max (max N0 N1) (max N2 N4), fun fu d n a b c => ?_⟩ hR
      unfold tryF
      rw [E0 fu d n (by omega) (by omega) (by omega)]
      simp only [E1 fu d n (by omega) (by omega) (by omega), hd, E2 fu d (by omega) (by omega)]
      exact E4 fu d n (by omega) (by omega) (by omega)
  | exit i => exact hq.elim
  | goto l => exact hq.elim
  | pan v => exact hq.elim
end Go.AM
end
section
/- Code whose outcome is open: what it may come to; loops over maps in any order. Conditions: as each rule says. -/
set_option linter.unusedSectionVars false
namespace Go.AM
variable {P : Program} {ng nt : Nat} [Ds nt] {sp : Special} {c : Code} {e : Env} {h : Heap} {Q Q1 : AExit → Env → Heap → Prop}

theorem mix_none {h : Heap} (hwf : HWf h) {N : Nat} (hN : h.nx ≤ N) : mix h N (fun _ => none) = h.get := by
  funext b
  unfold mix
  by_cases hb : b < N
  · rw [if_pos hb]
  · rw [if_neg hb, hwf b (by omega)]

def Land (nt : Nat) [Ds nt] (m : Mp) (w : World) (Q : AExit → Env → Heap → Prop) : Exit → Act → World → Prop := fun x a' w' =>
  ∃ ex e' h' m', Q ex e' h' ∧ HWf h' ∧ HRel m' h'.get w' ∧ Step m w m' w' ∧ ARel m' e'.at a' nt ∧ XRel m' ex x
theorem Land.trans {m m' : Mp} {w w' w'' : World} {x : Exit} {a : Act} (hs : Step m w m' w') (hl : Land nt m' w' Q x a w'') : Land nt m w Q x a w'' := by
  obtain ⟨ex, e', h', m2, q, hw, hh, hs2, hr, hx⟩ := hl
  exact ⟨ex, e', h', m2, q, hw, hh, hs.trans hs2, hr, hx⟩
def Good (P : Program) (ng nt : Nat) [Ds nt] (c : Code) (e : Env) (h : Heap) (Q : AExit → Env → Heap → Prop) : Prop :=
  HWf h → ∀ m w a, HRel m h.get w → GlobOk ng m → ARel m e.at a nt → c.wp P (Land nt m w Q) a w
theorem Good.mono (hg : Good P ng nt c e h Q1) (hq : ∀ ex e' h', Q1 ex e' h' → Q ex e' h') : Good P ng nt c e h Q := fun hwf m w a hh hgl hr =>
  wp_mono (hg hwf m w a hh hgl hr) fun _ _ _ ⟨ex, e', h', m', q, r⟩ => ⟨ex, e', h', m', hq _ _ _ q, r⟩
theorem Good.seq {c1 c2 : Code} (h1 : Good P ng nt c1 e h fun ex e' h' => (ex = .normal → Good P ng nt c2 e' h' Q) ∧ (ex ≠ .normal → Q ex e' h')) : Good P ng nt (.seq c1 c2) e h Q := by
  intro hwf m w a hh hg hr
  refine wp_seq (wp_mono (h1 hwf m w a hh hg hr) ?_)
  rintro x a' w' ⟨ex, e', h', m', ⟨qn, qx⟩, hwf', hh', hs, hr', hx⟩
  by_cases hn : ex = .normal
  · subst hn
    have : x = .normal := hx
    subst this
    exact wp_mono (qn rfl hwf' m' w' a' hh' (hg.mono hs.ext) hr') fun _ _ _ hl => hl.trans hs
  · exact then_of_not (hx.not_normal hn) ⟨ex, e', h', m', qx hn, hwf', hh', hs, hr', hx⟩
def leave (id : Nat) : AExit → AExit
  | .exit i => if i = id then .normal else .exit i
  | x => x
theorem Good.block {id : Nat} (hc : Good P ng nt c e h fun ex e' h' => Q (leave id ex) e' h') : Good P ng nt (.block id c) e h Q := by
  intro hwf m w a hh hg hr
  refine wp_block (wp_mono (hc hwf m w a hh hg hr) ?_)
  rintro x a' w' ⟨ex, e', h', m', q, hwf', hh', hs, hr', hx⟩
  cases ex with
  | exit i =>
    have : x = .exit i := hx
    subst this
    unfold Exit.inBlock
    by_cases e : i = id
    · simp only [if_pos e]
      simp only [leave, if_pos e] at q
      exact ⟨.normal, e', h', m', q, hwf', hh', hs, hr', rfl⟩
    · simp only [if_neg e]
      simp only [leave, if_neg e] at q
      exact ⟨.exit i, e', h', m', q, hwf', hh', hs, hr', rfl⟩
  | normal => have : x = .normal := hx; subst this; exact ⟨.normal, e', h', m', q, hwf', hh', hs, hr', rfl⟩
  | ret => have : x = .ret := hx; subst this; exact ⟨.ret, e', h', m', q, hwf', hh', hs, hr', rfl⟩
  | goto l => have : x = .goto l := hx; subst this; exact ⟨.goto l, e', h', m', q, hwf', hh', hs, hr', rfl⟩
  | pan v =>
    obtain ⟨v', e, hv⟩ := (hx : ∃ v', x = .panic [{ v := v', recovered := false }] ∧ VRel m' v v')
    subst e
    exact ⟨.pan v, e', h', m', q, hwf', hh', hs, hr', v', rfl, hv⟩
theorem Good.cond {x : Operand} {c1 c2 : Code} {t : Bool} (hx : operOk ng x = true) (ht : e.eval x = .bool t) (hc : Good P ng nt (bif t then c1 else c2) e h Q) : Good P ng nt (.cond x c1 c2) e h Q := by
  intro hwf m w a hh hg hr
  have hev := hr.eval hg hx
  rw [← Env.eval_eq, ht] at hev
  generalize hv : a.eval x = v at hev
  cases hev
  refine wp_cond hv ?_
  have := hc hwf m w a hh hg hr
  cases t <;> exact this
theorem Good.loop {n : Nat} (I : Nat → Env → Heap → Prop) (step : ∀ n e h, I n e h → Good P ng nt c e h fun ex e' h' => (ex = .normal ∧ ∃ k, k < n ∧ I k e' h') ∨ (ex ≠ .normal ∧ Q ex e' h')) (h0 : I n e h) : Good P ng nt (.loop c) e h Q := by
  intro hwf m w a hh hg hr
  have key : ∀ N n, n < N → ∀ e h, I n e h → HWf h → ∀ m1 w1 a1, Step m w m1 w1 → HRel m1 h.get w1 → ARel m1 e.at a1 nt → Code.rounds P c (Land nt m w Q) N a1 w1 := by
    intro N
    induction N with
    | zero => intro n hn; omega
    | succ N ih =>
      intro n hn e h hI hwf m1 w1 a1 hs hh hr
      rw [rounds_succ]
      refine wp_mono (step n e h hI hwf m1 w1 a1 hh (hg.mono hs.ext) hr) ?_
      rintro x a' w' ⟨ex, e', h', m', q, hwf', hh', hs', hr', hx⟩
      rcases q with ⟨rfl, k, hk, hI'⟩ | ⟨hne, hq⟩
      · have : x = .normal := hx
        subst this
        exact ih k (by omega) e' h' hI' hwf' m' w' a' (hs.trans hs') hh' hr'
      · exact then_of_not (hx.not_normal hne) ⟨ex, e', h', m', hq, hwf', hh', hs.trans hs', hr', hx⟩
  exact wp_loop_rounds (n + 1) (key (n + 1) n (Nat.lt_succ_self n) e h h0 hwf m w a (.refl m w) hh hr)

/- ## Functions -/
def WFS (P : Program) (ng : Nat) (f : FuncId) (args : List Value) (h : Heap) (R : Out → Heap → Prop) : Prop :=
  HWf h → Enter P f ∧ ∀ m w args', HRel m h.get w → GlobOk ng m → VRels m args args' → Calls P f args'.toArray w fun e w' => ∃ o h' m', R o h' ∧ HWf h' ∧ ORel m' o e ∧ HRel m' h'.get w' ∧ Step m w m' w'
theorem WFS.fn {f : FuncId} {fn : Func} {c : Code} {args : List Value} {R : Out → Heap → Prop} (hf : P.funcs[f]? = some fn) (hok : fnOk ng fn = true) (hc : fn.body = some c) (hr : @Good P ng fn.ntmps ⟨[]⟩ c (storeL .leaf 0 args) h (FnQ P fn.results.toList R)) : WFS P ng f args h R := by
  intro hwf
  obtain ⟨hen, c', hc', hcok⟩ := enter_of_ok hf hok
  letI : Ds fn.ntmps := ⟨[]⟩
  refine ⟨hen, fun m w args' hh hg ha => calls_of_wp hf hc (wp_mono (hr hwf m w _ hh hg (args_rel ha _)) ?_)⟩
  rintro x a' w' ⟨ex, e', h', m', q, hwf', hh', hs, hr', hx⟩
  have hh2 : HRel m' (mix h' h'.nx fun _ => none) w' := by rw [mix_none hwf' (Nat.le_refl _)]; exact hh'
  cases ex with
  | normal =>
    have : x = .normal := hx
    subst this
    obtain ⟨v, hv, hR⟩ := (q : ∃ v, resultV P e' h' fn.results.toList = some v ∧ R (.ret v) h')
    obtain ⟨v', r1, r2⟩ := resultV_ok hh2 hwf' (Nat.le_refl _) hr' hv
    exact ⟨hr'.def_, v', r1, .ret v, h', m', hR, hwf', ⟨v', rfl, r2⟩, hh', hs⟩
  | ret =>
    have : x = .ret := hx
    subst this
    obtain ⟨v, hv, hR⟩ := (q : ∃ v, resultV P e' h' fn.results.toList = some v ∧ R (.ret v) h')
    obtain ⟨v', r1, r2⟩ := resultV_ok hh2 hwf' (Nat.le_refl _) hr' hv
    exact ⟨hr'.def_, v', r1, .ret v, h', m', hR, hwf', ⟨v', rfl, r2⟩, hh', hs⟩
  | pan v =>
    obtain ⟨v', e, hv⟩ := (hx : ∃ v', x = .panic [{ v := v', recovered := false }] ∧ VRel m' v v')
    subst e
    exact ⟨hr'.def_, .pan v, h', m', q, hwf', ⟨v', rfl, hv⟩, hh', hs⟩
  | exit i => exact q.elim
  | goto l => exact q.elim

/- ## Regions with such calls -/
def GoodO (P : Program) (ng nt : Nat) [Ds nt] (all l : List Oper) (e : Env) (h : Heap) (Q : AExit → Env → Heap → Prop) : Prop :=
  HWf h → ∀ k, (∀ j, j < l.length → l[j]? = all[k + j]?) → l.all (opersOk ng nt) = true → ∀ m w a, HRel m h.get w → GlobOk ng m → ARel m e.at a nt → wpOps P all.toArray (Land nt m w Q) (List.range' k l.length) a w
theorem Good.region {id : Nat} {ops : Array Oper} (hok : codeOk ng nt (.region id ops false) = true) (hg : GoodO P ng nt ops.toList ops.toList e h Q) : Good P ng nt (.region id ops false) e h Q := by
  intro hwf m w a hh hgl hr
  have := hg hwf 0 (fun j _ => by simp) hok m w a hh hgl hr
  refine wp_region ?_
  rwa [Array.toArray_toList, Array.length_toList, ← List.range_eq_range'] at this
theorem upon_then {o : Oper} {a : Act} {next K : Act → World → Prop} {Q : Exit → Act → World → Prop} (r : Result Next) : o.upon P a next (Exit.then K Q) r = o.upon P a next Q r := by
  cases r with
  | ok n w' => cases n <;> rfl
  | halt x w' => cases x <;> rfl
theorem wpOps_app {ops : Array Oper} {Q : Exit → Act → World → Prop} {r2 : List Nat} : ∀ (r1 : List Nat) (a : Act) (w : World), wpOps P ops (Exit.then (fun a w => wpOps P ops Q r2 a w) Q) r1 a w → wpOps P ops Q (r1 ++ r2) a w := by
  intro r1
  induction r1 with
  | nil => intro a w h; exact h
  | cons i r1 ih =>
    intro a w h
    simp only [List.cons_append, wpOps] at h ⊢
    cases ho : ops[i]? with
    | none => rw [ho] at h; exact ih a w h
    | some o =>
      rw [ho] at h
      simp only at h ⊢
      split
      · rename_i hw
        rw [if_pos hw] at h
        refine h.imp (fun h => ?_) (fun h => h)
        unfold Oper.wp at h
        rw [upon_then] at h
        exact Oper.wp_mono (fun a w => ih a w) h
      · rename_i hw
        rw [if_neg hw] at h
        exact ih _ _ h
theorem upon_mono {o : Oper} {a : Act} {K K' : Act → World → Prop} {Q Q' : Exit → Act → World → Prop} (hk : ∀ a w, K a w → K' a w) (hq : ∀ x a w, Q x a w → Q' x a w) (r : Result Next) (h : o.upon P a K Q r) : o.upon P a K' Q' r := by
  cases r with
  | ok n w' =>
    cases n <;> simp only [Oper.upon] at h ⊢ <;>
      first
        | exact hk _ _ h
        | exact Calls.mono h (fun e w'' he => by cases e <;> first | exact hk _ _ he | exact hq _ _ _ he | exact he.imp fun _ he => he.imp fun _ he => hq _ _ _ he)
        | exact Rows.mono h (fun _ _ he => hk _ _ he)
  | halt x w' => cases x <;> simp only [Oper.upon] at h ⊢ <;> first | exact hq _ _ _ h | exact h
theorem wpOps_mono {ops : Array Oper} {Q Q' : Exit → Act → World → Prop} (hq : ∀ x a w, Q x a w → Q' x a w) : ∀ (l : List Nat) (a : Act) (w : World), wpOps P ops Q l a w → wpOps P ops Q' l a w := by
  intro l
  induction l with
  | nil => intro a w2 h; exact hq _ _ _ h
  | cons i r ih =>
    intro a w2 h
    simp only [wpOps] at h ⊢
    cases ho : ops[i]? with
    | none => rw [ho] at h; exact ih a w2 h
    | some o =>
      rw [ho] at h
      simp only at h ⊢
      split
      · rename_i hw
        rw [if_pos hw] at h
        exact h.imp (fun h => upon_mono (fun a w => ih a w) hq _ h) (fun h => ⟨h.1, h.2.imp fun _ he => he.imp fun _ he => hq _ _ _ he⟩)
      · rename_i hw
        rw [if_neg hw] at h
        exact ih _ _ h
theorem wpOps_land {m m' : Mp} {w w' : World} {ops : Array Oper} (hs : Step m w m' w') (l : List Nat) (a : Act) (w2 : World) (h : wpOps P ops (Land nt m' w' Q) l a w2) : wpOps P ops (Land nt m w Q) l a w2 :=
  wpOps_mono (fun _ _ _ hl => hl.trans hs) l a w2 h
theorem GoodO.take (n : Nat) {all l : List Oper} (hm : P.follows .mixedOrders = true) (hsp : SpecOk P ng sp)
    (hr : Run P ng sp (fun ex e' h' => (ex = .normal → GoodO P ng nt all (l.drop n) e' h' Q) ∧ (ex ≠ .normal → Q ex e' h')) [] (.ops all (l.take n)) e h) : GoodO P ng nt all l e h Q := by
  obtain ⟨ex, e', h', ⟨N, hN⟩, hx⟩ := hr.sem
  obtain ⟨hxn, hxx⟩ : (ex = .normal → GoodO P ng nt all (l.drop n) e' h' Q) ∧ (ex ≠ .normal → Q ex e' h') := hx
  have hrun := hN N N (Nat.le_refl _) (Nat.le_refl _)
  intro hwf k hl hok m w a hh hg hr
  have hsplit : List.range' k l.length = List.range' k (l.take n).length ++ List.range' (k + (l.take n).length) (l.drop n).length := by
    rw [List.range'_append_1, ← List.length_append, List.take_append_drop]
  rw [hsplit]
  refine wpOps_app _ _ _ ?_
  have hok1 : (l.take n).all (opersOk ng nt) = true := by
    rw [List.all_eq_true] at hok ⊢
    exact fun x hx => hok x (List.mem_of_mem_take hx)
  have hok2 : (l.drop n).all (opersOk ng nt) = true := by
    rw [List.all_eq_true] at hok ⊢
    exact fun x hx => hok x (List.mem_of_mem_drop hx)
  obtain ⟨g1, g2, g3⟩ := ops_wp (acall_ok hm hsp N N) all.toArray (l.take n) k e e' h h' ex (fun j hj => by
    have hj : j < n ∧ j < l.length := by rw [List.length_take] at hj; omega
    rw [List.getElem?_take, if_pos hj.1]
    exact hl j hj.2) hok1 hwf hrun
  refine g3 h'.nx (fun _ => none) m w a _ (Nat.le_refl _) (by rw [mix_none hwf g2]; exact hh) hg hr ?_
  intro m' w' a' x q1 q2 q3 q4
  rw [mix_none g1 (Nat.le_refl _)] at q1
  by_cases hn : ex = .normal
  · subst hn
    have : x = .normal := q4
    subst this
    have := hxn rfl g1 (k + (l.take n).length) (fun j hj => by
      have hj : j < l.length - n := by simpa using hj
      rw [List.getElem?_drop, List.length_take, show min n l.length = n by omega, Nat.add_assoc]
      exact hl (n + j) (by omega)) hok2 m' w' a' q1 (hg.mono q2.ext) q3
    exact wpOps_land q2 _ _ _ this
  · exact then_of_not (q4.not_normal hn) ⟨ex, e', h', m', hxx hn, g1, q1, q2, q3, q4⟩
theorem GoodO.call {all r : List Oper} {o : Oper} {c : Call} {f : FuncId} {args : List Value} {R : Out → Heap → Prop} (hgd : o.guard = none) (hop : o.op = .call c) (hc : callee P c e.eval = some (f, args)) (hw : WFS P ng f args h R)
    (hp : ∀ v h', ¬ R (.pan v) h') (hk : ∀ v h', R (.ret v) h' → GoodO P ng nt all r (e.put o.dst v) h' Q) : GoodO P ng nt all (o :: r) e h Q := by
  intro hwf k hl hok m w a hh hg hr
  simp only [List.all_cons, Bool.and_eq_true] at hok
  have h0 : all.toArray[k]? = some o := by have := hl 0 (by simp); simpa using this.symm
  obtain ⟨hen, hcalls⟩ := hw hwf
  simp only [List.length_cons, List.range'_succ]
  refine wpOps_step h0 (by simp [Region.wanted, hgd]) ?_
  have hops : ∀ x ∈ c.operands.toList, VRel m (evalF e.at x) (a.eval x) := by
    have := opers_rel hr hg hok.1
    rw [hop] at this
    exact this
  rw [Env.eval_eq] at hc
  obtain ⟨args', h1, h2⟩ := call_run (P := P) (w := w) hop hops hc hen
  unfold Oper.wp
  rw [h2]
  refine (hcalls m w args' hh hg h1).mono ?_
  rintro en w' ⟨out, h', m', hR, hwf', ho, hh', hs⟩
  cases out with
  | pan v => exact absurd hR (hp v h')
  | ret v =>
    obtain ⟨v', rfl, hv⟩ := ho
    have := hk v h' hR hwf' (k + 1) (fun j hj => by have := hl (j + 1) (by simpa using hj); simpa [Nat.add_assoc, Nat.add_comm 1 j] using this) hok.2 m' w' (a.put o.dst v') hh' (hg.mono hs.ext) (by rw [Env.put_at]; exact (hr.mono hs.ext).put hv (dst_lt hok.1))
    exact wpOps_land hs _ _ _ this
/- ## Loops over maps -/
theorem XRel.same {m m' : Mp} (e : Alike m m') {ex : AExit} {x : Exit} (h : XRel m ex x) : XRel m' ex x := by
  cases ex with
  | pan v => obtain ⟨v', h1, h2⟩ := (h : ∃ v', x = .panic [{ v := v', recovered := false }] ∧ VRel m v v'); exact ⟨v', h1, h2.same e⟩
  | _ => exact h
theorem XRel.mono {m m' : Mp} (e : Ext m m') {ex : AExit} {x : Exit} (h : XRel m ex x) : XRel m' ex x := by
  cases ex with
  | pan v => obtain ⟨v', h1, h2⟩ := (h : ∃ v', x = .panic [{ v := v', recovered := false }] ∧ VRel m v v'); exact ⟨v', h1, h2.mono e⟩
  | _ => exact h
theorem get_put (h : Heap) (d : Nat) (x : Blk) : (h.put d x).get = fun b => if b = d then some x else h.get b := by
  funext b
  show (h.t.set d x).get b = _
  rw [Trie.get_set]; rfl
theorem HRel.drop {m : Mp} {h : Heap} {w : World} {d r since last : Nat} {seen : List Nat} (hh : HRel m (h.put d (.iter r since seen none last)).get w) :
    ∃ m', HRel m' (h.put d .dead).get w ∧ Step m w m' w := by
  rw [get_put] at hh
  have hb := hh.blk d
  simp only [if_pos] at hb
  cases hm : m d with
  | fresh => rw [hm] at hb; exact hb.elim
  | dead => rw [hm] at hb; exact hb.elim
  | sym k n => rw [hm] at hb; exact hb.elim
  | live l =>
    rw [hm] at hb
    obtain ⟨k1, k2⟩ := hh.kill hm hb.1.1
    refine ⟨_, ?_, k2⟩
    rw [get_put]
    have e : (fun b' => if b' = d then some Blk.dead else if b' = d then some (Blk.iter r since seen none last) else h.get b') = fun b' => if b' = d then some .dead else h.get b' := by
      funext b'
      by_cases e : b' = d
      · rw [if_pos e, if_pos e]
      · rw [if_neg e, if_neg e, if_neg e]
    rw [e] at k1
    exact k1
end Go.AM
end
section
/- A call without arguments that gave true in a run of its own: a special for it, in a seat whose rows list a table. -/
namespace Go.AM
variable {P : Program}

noncomputable def trueF (g : Nat) (k : IntKind) (bs : List Int) (_ : Caller) (args : List Value) (h : Heap) : Option (Out × Heap) :=
  match args with
  | [] => cond (beqB (h.get g) (some (tabBlk k bs))) (some (.ret (.bool true), h)) none
  | _ => none
def orSpec (a b : Special) : Special := fun f => match a f with
  | some F => some F
  | none => b f
theorem orSpec_ok {ng : Nat} {a b : Special} (ha : SpecOk P ng a) (hb : SpecOk P ng b) : SpecOk P ng (orSpec a b) := by
  intro f G hG cl hcl
  unfold orSpec at hG
  split at hG
  · rename_i F hF
    simp only [Option.some.injEq] at hG
    subst hG
    exact ha f F hF cl hcl
  · exact hb f G hG cl hcl

theorem trueF_ok {g : Nat} {k : IntKind} {bs : List Int} {cl0 : Caller} (hcl0 : CallOk P (g + 1) cl0) {f : FuncId} (hrun : isTrue (cl0 f [] (listHeap (doorL g k bs ++ []))) = true) (cl : Caller) : CallOkAt P (g + 1) f (trueF g k bs cl) := by
  cases hq : cl0 f [] (listHeap (doorL g k bs ++ [])) with
  | none => rw [hq] at hrun; simp [isTrue] at hrun
  | some q =>
    obtain ⟨o0, h0⟩ := q
    rw [hq] at hrun
    have ho : o0 = .ret (.bool true) := by
      unfold isTrue at hrun
      split at hrun
      · rename_i b _ heq
        simp only [Option.some.injEq, Prod.mk.injEq] at heq
        rw [heq.1, hrun]
      · simp at hrun
    subst ho
    obtain ⟨hen, _, hnx, hc⟩ := hcl0 f [] _ _ h0 hq (listHeap_wf _)
    intro args h o h' hr hwf
    unfold trueF at hr
    split at hr <;> try (simp at hr; done)
    cases hb : beqB (h.get g) (some (tabBlk k bs)) with
    | false => rw [hb] at hr; simp at hr
    | true =>
      rw [hb] at hr
      simp only [cond_true, Option.some.injEq, Prod.mk.injEq] at hr
      obtain ⟨rfl, rfl⟩ := hr
      have hg := beqB_eq hb
      refine ⟨hen, hwf, Nat.le_refl _, fun N F m w args' hN hh hgl ha => ?_⟩
      cases ha
      have hbr := hh.at hwf hN hg
      -- the table's place
      obtain ⟨l, hm, hl1, hl2, hl3⟩ : ∃ l, m g = .live l ∧ l.cb = g ∧ l.sh = 0 ∧ l.rw = false := by
        rcases hgl g (Nat.lt_succ_self g) with ⟨l, h1, h2, h3, h4⟩ | h1
        · exact ⟨l, h1, h2, h3, h4⟩
        · rw [h1] at hbr; exact hbr.elim
      rw [hm] at hbr
      obtain ⟨b1, c, el, fr, b2, b3, b4, b5, b6⟩ := hbr
      let M0 : Mp := fun b => if b < g then .dead else if b = g then .live l else .fresh
      have hM : ∀ b l', M0 b = .live l' → b = g ∧ l' = l := by
        intro b l' hb'
        by_cases h1 : b < g
        · simp only [M0, if_pos h1] at hb'; cases hb'
        · by_cases h2 : b = g
          · simp only [M0, if_neg h1, if_pos h2] at hb'; cases hb'; exact ⟨h2, rfl⟩
          · simp only [M0, if_neg h1, if_neg h2] at hb'; cases hb'
      have hMg : M0 g = .live l := by simp [M0]
      have hrel : HRel M0 (mix (listHeap (doorL g k bs ++ [])) h0.nx fun _ => none) w := by
        refine ⟨fun b => ?_, fun b b' l1 l2 h1 h2 _ _ => by rw [(hM b l1 h1).1, (hM b' l2 h2).1]⟩
        have hlen : (doorL g k bs ++ []).length = g + 1 := by simp [doorL]
        have hnx' : g + 1 ≤ h0.nx := by rw [← hlen]; exact hnx
        unfold mix
        rw [listHeap_get]
        by_cases h1 : b < g
        · have e : (doorL g k bs ++ [])[b]? = some .dead := by
            rw [List.append_nil]; unfold doorL
            rw [List.getElem?_append_left (by simpa using h1), List.getElem?_replicate, if_pos h1]
          rw [if_pos (by omega), e]
          simp only [M0, if_pos h1]
          trivial
        · by_cases h2 : b = g
          · subst h2
            have e : (doorL b k bs ++ [])[b]? = some (tabBlk k bs) := by
              rw [List.append_nil]; unfold doorL
              rw [List.getElem?_append_right (by simp)]
              simp
            rw [if_pos (by omega), e, hMg]
            refine ⟨b1, c, el, fr, b2, b3, b4, b5, fun i hi => ?_⟩
            obtain ⟨v, v', a1, a2, a3, a4⟩ := b6 i hi
            refine ⟨v, v', a1, a2, a3, ?_⟩
            rw [get_ofList, List.getElem?_map, List.getElem?_eq_getElem hi, Option.map_some] at a1
            simp only [Option.some.injEq] at a1
            subst a1
            cases a4
            exact .int _ _
          · have e : (doorL g k bs ++ [])[b]? = none := List.getElem?_eq_none (by rw [hlen]; omega)
            rw [e]
            simp only [M0, if_neg h1, if_neg h2]
            split <;> trivial
      refine (hc h0.nx (fun _ => none) M0 w [] (Nat.le_refl _) hrel ?_ .nil).mono ?_
      · intro x hx
        by_cases h1 : x < g
        · exact .inr (by simp [M0, h1])
        · have : x = g := by omega
          subst this
          exact .inl ⟨l, hMg, hl1, hl2, hl3⟩
      · rintro e w' ⟨m', ⟨v', rfl, hv⟩, _, hst⟩
        cases hv
        have hkeep : ∀ cb, cb < w.heap.size → w'.heap[cb]? = w.heap[cb]? := fun cb hcb => hst.keep cb hcb fun b l' hl' hrw => by
          rw [(hM b l' hl').2, hl3] at hrw; cases hrw
        refine ⟨m, ⟨_, rfl, .bool true⟩, ⟨fun b => (hh.blk b).mono (.refl m) fun l' hl' => hkeep _ (hh.lt hl'), hh.inj⟩, ?_⟩
        exact ⟨.refl m, hst.size, hst.os, hst.out, fun cb hcb _ => hkeep cb hcb, fun b l' hl' hr' => .inr ⟨b, l', hl', hr', rfl⟩, fun b l' hl' _ => hl'⟩
end Go.AM
end
section
/- A call without arguments that gave true in a run of its own: a special for it, where no globals are named. -/
namespace Go.AM
variable {P : Program}
end Go.AM
end
section
/- From a walk to the model: laws whose arguments are read alone. Conditions: each block of the abstract heap stands for what the arguments hold. -/
namespace Go.AM
open Go.ChangeShapes Go.WideShapes
variable {P : Program} {W : World}
theorem list_rel2 {l : List Blk} {st : List AM.Stat} (hlen : st.length = l.length) (hb : ∀ (i : Nat) (s : AM.Stat) (b : Blk), st[i]? = some s → l[i]? = some b → BRel (statMp st) W s (some b))
    (hro : ∀ (i : Nat) (l1 : Loc) (b : Blk), st[i]? = some (.live l1) → l[i]? = some b → roB (some b) = true) (N : Nat) (hN : l.length ≤ N) : HRel (statMp st) (mix (listHeap l) N fun _ => none) W := by
  have key : ∀ b, mix (listHeap l) N (fun _ => none) b = l[b]? := by
    intro b
    unfold mix
    rw [listHeap_get]
    by_cases h : b < l.length
    · rw [if_pos (by omega)]
    · rw [List.getElem?_eq_none (by omega)]
      split <;> rfl
  refine ⟨fun b => ?_, fun b b' l1 l2 h1 h2 e hq => ?_⟩
  · rw [key]
    by_cases h : b < l.length
    · have h1 : st[b]? = some (st[b]'(by omega)) := List.getElem?_eq_getElem _
      have h2 : l[b]? = some (l[b]'h) := List.getElem?_eq_getElem _
      have : statMp st b = st[b]'(by omega) := by unfold statMp; rw [h1]; rfl
      rw [this, h2]
      exact hb b _ _ h1 h2
    · have : statMp st b = .fresh := by unfold statMp; rw [List.getElem?_eq_none (by omega)]; rfl
      rw [this, List.getElem?_eq_none (by omega)]
      trivial
  · rw [key] at hq
    have h1' := statMp_get h1 (by simp)
    have hb' : b < st.length := (List.getElem?_eq_some_iff.1 h1').1
    rw [hlen] at hb'
    have h2' : l[b]? = some (l[b]'hb') := List.getElem?_eq_getElem _
    rw [h2', hro b l1 _ h1' h2'] at hq
    cases hq
theorem wf_list {ng : Nat} {sp : Special} (hm : P.follows .mixedOrders = true) (hsp : SpecOk P ng sp) {f : FuncId} {args args' : List Value} {l : List Blk} {st : List AM.Stat} (hlen : st.length = l.length) (hb : ∀ (i : Nat) (s : AM.Stat) (b : Blk), st[i]? = some s → l[i]? = some b → BRel (statMp st) W s (some b))
    (hro : ∀ (i : Nat) (l1 : Loc) (b : Blk), st[i]? = some (.live l1) → l[i]? = some b → roB (some b) = true ∧ l1.rw = false) (hg : GlobOk ng (statMp st))
    (hw : WF P ng sp f args (listHeap l) fun o _ => o = .ret (.bool true)) (ha : VRels (statMp st) args args') : Calls P f args'.toArray W fun e W' => e = .returned (.bool true) ∧ Still W W' := by
  obtain ⟨o, h', ⟨N, hN⟩, rfl⟩ := hw
  refine true_callsG (acall_ok hm hsp N N) (listHeap_wf l) (fun N hN => list_rel2 hlen hb (fun i l1 b h1 h2 => (hro i l1 b h1 h2).1) N hN) hg ?_ (by rw [hN N N (Nat.le_refl _) (Nat.le_refl _)]; rfl) ha
  intro b l1 h1
  have h1' := statMp_get h1 (by simp)
  have hb' : b < st.length := (List.getElem?_eq_some_iff.1 h1').1
  rw [hlen] at hb'
  exact (hro b l1 _ h1' (List.getElem?_eq_getElem hb')).2

end Go.AM
end
section
/- copy, laid out for rewriting. Conditions: the rows that are named. -/
namespace Go.AM
variable {P : Program}
theorem aCopy_at {ts : Array TypeId} {dt st : TypeId} (hts : ts.toList = [dt, st]) {s : Nat} (h : slcOf P dt = some s) {b off dn c n : Nat} {x : Value} {g : Nat → Option Blk} {L cells : List Value} {k : Kind} (hx : lenV x = some n) (hn : firstL g s (Nat.min n dn) x = some cells)
    (hb : g b = some (cellsB L k)) (hk : k ≠ .ro) (hl : off + cells.length ≤ L.length) :
    aCopy P ts (.slice (some ⟨b, off, none⟩) dn c) x g = some ⟨.int .i64 (Nat.min n dn), [(b, cellsB (overL L off cells) k)], []⟩ := by
  unfold slcOf at h
  unfold aCopy
  rw [hts]
  simp only
  split at h <;> try (simp at h; done)
  rename_i e he
  rw [he]
  simp only [h, hx, hn, hb]
  have hlo : (overL L off cells).length = L.length := by unfold overL; simp only [List.length_append, List.length_take, List.length_drop]; omega
  unfold cellsB
  cases k <;> first | (exact absurd rfl hk) | (simp only; rw [if_pos hl, storeL_ofList _ _ _ hl, hlo])
theorem slS_max {b off n c l hi : Nat} {k k' k2 : IntKind} {g : Nat → Option Blk} {X : List Value} (hb : g b = some (cellsB X .exact)) (h1 : l < hi) (h2 : hi ≤ c) :
    slS (some 1) (some ⟨b, off, none⟩) n c (some (.int k (l : Nat))) (some (.int k' (hi : Nat))) (some (.int k2 (hi : Nat))) g = ret (.slice (some ⟨b, off + l, none⟩) (hi - l) (hi - l)) := by
  unfold slS bounds
  rw [bnd_int, if_pos ⟨by omega, by omega⟩]
  simp only [Int.toNat_natCast, Option.isSome_some, Option.isNone_some, Bool.and_false, Bool.false_eq_true, if_false]
  rw [bnd_int, if_pos ⟨by omega, by omega⟩]
  simp only [Int.toNat_natCast]
  rw [bnd_int, if_pos ⟨by omega, by omega⟩]
  simp only [Int.toNat_natCast, show Nat.ble hi hi = true from by simp [Nat.ble_eq], cond_true, u_sliceAddr, hb, sadX_exact]
  rw [if_neg (by omega)]
  simp
theorem slS_loose {b off n c l : Nat} {k : IntKind} {g : Nat → Option Blk} {X : List Value} (hb : g b = some (cellsB X (.loose 1))) (hx : off + c = X.length) (h1 : l ≤ n) (h2 : n ≤ c) :
    slS (some 1) (some ⟨b, off, none⟩) n c (some (.int k (l : Nat))) none none g = ret (.slice (some ⟨b, off + l, none⟩) (n - l) (c - l)) := by
  unfold slS
  rw [u_bounds, bnd_none]
  simp only
  rw [bnd_int, if_pos ⟨by omega, by omega⟩]
  simp only [Int.toNat_natCast]
  rw [if_pos h2]
  simp only [u_sliceAddr, hb, sadX_loose]
  simp [hx]
noncomputable def bsX (len nx : Nat) (x : Option (List Value)) : Option Eff := match x with
  | some cells => some ⟨.slice (some ⟨nx, 0, none⟩) len len, [], [cellsB cells .exact]⟩
  | none => none
theorem u_buildSlice (t : TypeId) (len nx : Nat) (parts : List (Nat × Value)) {z : List Value} {s mb : Nat} (h : mkOf P t = some (z, s, mb)) (hl : len * s ≤ 1048576) :
    effBuildSlice P t len parts nx = bsX len nx (fillL (fun i => some (i * s, s)) (repeatL z len) parts) := by
  unfold effBuildSlice
  unfold mkOf at h
  split at h <;> try (simp at h; done)
  rename_i e he
  split at h <;> try (simp at h; done)
  rename_i i z' hi hz
  split at h <;> try (simp at h; done)
  rename_i hz2
  simp only [Option.some.injEq, Prod.mk.injEq] at h
  obtain ⟨rfl, rfl, rfl⟩ := h
  rw [he]
  simp only [sizeOf?, hi, Option.map_some, hz]
  rw [if_neg (by omega)]
  cases fillL (fun j => some (j * i.size, i.size)) (repeatL z' len) parts <;> rfl
def invOf (P : Program) (t : TypeId) (name : String) : Option FuncId := match P.info? t with
  | some i => match i.methods.toList.find? (·.name == name), P.underlying t with
    | some m, some (.pointer _) => if m.path.toList.isEmpty then match m.func with
      | some (f, true) => some f
      | _ => none else none
    | _, _ => none
  | none => none
def invK (P : Program) (name : String) (l : List Value) : Value → Option (FuncId × List Value)
  | .iface t (.pointer a) => (invOf P t name).map fun f => (f, .pointer a :: l)
  | _ => none
theorem invK_iface (name : String) (l : List Value) (t : TypeId) (a : Option Addr) : invK P name l (.iface t (.pointer a)) = (invOf P t name).map fun f => (f, .pointer a :: l) := rfl
theorem u_invoke (r : Operand) (name : String) (ars : Array Operand) (ts : Array TypeId) (e : Env) : callee P ⟨.invoke r name, ars, ts⟩ e.eval = invK P name (ars.toList.map e.eval) (e.eval r) := by
  unfold callee invK
  simp only
  generalize e.eval r = x
  cases x <;> try rfl
  rename_i t v
  have key : ∀ a, v = .pointer a → (match P.info? t with
      | some i => match i.methods.toList.find? (·.name == name), P.underlying t, v with
        | some m, some (.pointer _), .pointer a => if m.path.toList.isEmpty then match m.func with
            | some (f, true) => some (f, .pointer a :: ars.toList.map e.eval)
            | _ => none else none
        | _, _, _ => none
      | none => none) = (invOf P t name).map fun f => (f, Value.pointer a :: ars.toList.map e.eval) := by
    rintro a rfl
    unfold invOf
    cases P.info? t with
    | none => rfl
    | some i =>
      simp only
      cases i.methods.toList.find? (·.name == name) with
      | none => rfl
      | some m =>
        cases P.underlying t with
        | none => rfl
        | some d =>
          cases d <;> try rfl
          simp only
          split
          · split <;> simp_all
          · rfl
  cases v <;> first | exact key _ rfl | skip
  all_goals (
    simp only
    cases P.info? t with
    | none => rfl
    | some i =>
      simp only
      cases i.methods.toList.find? (·.name == name) with
      | none => rfl
      | some m =>
        cases P.underlying t with
        | none => rfl
        | some d => cases d <;> rfl)
end Go.AM
end
section
/- Maps with int keys, for rewriting; the entry that a loop is at. Conditions: as each rule says. -/
set_option linter.unusedSectionVars false
namespace Go.AM
variable {P : Program}
abbrev Ent := Int × Value × Nat
def lookI : List Ent → Int → Option Value
  | [], _ => none
  | x :: r, n => if n = x.1 then some x.2.1 else lookI r n
variable {ng nt : Nat} [Ds nt] {e : Env} {h : Heap} {Q : AExit → Env → Heap → Prop}
theorem guard_undef {all : List Oper} {e : Env} {o : Oper} {j : Nat} {want : Bool} (hg : o.guard = some (j, want)) (hv : gval all e j = undef) : guardOk all e o = true ∧ wantedA all e o = false := by
  unfold gval at hv
  unfold guardOk wantedA
  rw [hg]
  simp only
  split at hv
  · rename_i d hd
    rw [hd]
    simp only
    rw [hv]
    exact ⟨rfl, rfl⟩
  · cases hv
theorem runG_undef {sp : Special} {K : List Frm} {all r : List Oper} {d : Option Tmp} {op : Op} {t : TypeId} {p : String} {af : Array Edge} {j : Nat} {want : Bool} {e : Env} {h : Heap} :
    RunG P ng sp Q K all r ⟨d, op, t, p, af, some (j, want)⟩ j undef e h ↔ undef = gval all e j ∧ Run P ng sp Q K (.ops all r) (e.put d undef) h := by
  refine and_congr_right fun hv => ?_
  obtain ⟨h1, h2⟩ := @guard_undef all e ⟨d, op, t, p, af, some (j, want)⟩ j want rfl hv.symm
  constructor
  · intro hr
    cases hr with
    | oskip _ _ h3 => exact h3
    | oeff _ h3 _ _ _ => rw [h2] at h3; cases h3
    | ocall _ h3 _ _ _ _ _ => rw [h2] at h3; cases h3
    | ocallp _ h3 _ _ _ _ _ => rw [h2] at h3; cases h3
    | opanic _ h3 _ _ _ => rw [h2] at h3; cases h3
  · exact fun hr => .oskip h1 h2 hr
theorem GoodO.nil {all : List Oper} (hq : Q .normal e h) : GoodO P ng nt all [] e h Q := fun hwf _ _ _ m w _ hh _ hr => ⟨.normal, e, h, m, hq, hwf, hh, .refl m w, hr, rfl⟩
theorem HWf.new {h : Heap} (hw : HWf h) (x : Blk) : HWf (h.new x) := fun b hb => by
  rw [Heap.nx_new] at hb
  rw [Heap.get_new_ne _ _ (by omega)]; exact hw b (by omega)
theorem HWf.upd {h : Heap} (hw : HWf h) {d : Nat} (hd : d < h.nx) (x : Blk) : HWf (h.upd d x) := fun b hb => by
  rw [Heap.nx_upd] at hb
  rw [Heap.get_upd_ne _ _ (by omega)]; exact hw b hb
theorem HWf.lt {h : Heap} (hw : HWf h) {b : Nat} {x : Blk} (hb : h.get b = some x) : b < h.nx := by
  rcases Nat.lt_or_ge b h.nx with q | q
  · exact q
  · rw [hw b q] at hb; cases hb
theorem GoodO.entry {all r : List Oper} {o : Oper} {x : Operand} {v : Value} (hgd : o.guard = none) (hop : o.op = .entry x) (hv : effEntry (e.eval x) h.get = some v) (hk : GoodO P ng nt all r (e.put o.dst v) h Q) : GoodO P ng nt all (o :: r) e h Q := by
  intro hwf k hl hok m w a hh hg hr
  simp only [List.all_cons, Bool.and_eq_true] at hok
  have h0 : all.toArray[k]? = some o := by have := hl 0 (by simp); simpa using this.symm
  simp only [List.length_cons, List.range'_succ]
  refine wpOps_step h0 (by simp [Region.wanted, hgd]) ?_
  rw [Env.eval_eq] at hv
  refine entry_wp (N := h.nx) (F := fun _ => none) hop (by rw [mix_none hwf (Nat.le_refl _)]; exact hh) hwf (Nat.le_refl _) hr hg hok.1 hv ?_
  intro v' hv'
  exact hk hwf (k + 1) (fun j hj => by have := hl (j + 1) (by simpa using hj); simpa [Nat.add_assoc, Nat.add_comm 1 j] using this) hok.2 m w (a.put o.dst v') hh hg (by rw [Env.put_at]; exact hr.put hv' (dst_lt hok.1))
end Go.AM
end
section
/- Loops by goto; texts as rows of bytes. Conditions: as each rule says. -/
namespace Go.AM
variable {P : Program} {ng : Nat} {sp : Special} {Q : AExit → Env → Heap → Prop}
theorem run_scope2 {K : List Frm} {body rest : Code} {l : Nat} (hl : findLabel body l = some rest) (I : Nat → Env → Heap → Prop) (J : AExit → Env → Heap → Prop)
    (step : ∀ n e h, I n e h → ∀ Q' : AExit → Env → Heap → Prop, (∀ n' e' h', n' < n → I n' e' h' → Q' (.goto l) e' h') → (∀ ex e' h', (∀ l, ex ≠ .goto l) → J ex e' h' → Q' ex e' h') → Run P ng sp Q' [] (.code rest) e h)
    (n : Nat) (e : Env) (h : Heap) (hi : I n e h) (after : ∀ ex e' h', (∀ l, ex ≠ .goto l) → J ex e' h' → Run P ng sp Q K (.exit ex) e' h') : Run P ng sp Q (.scope body :: K) (.code rest) e h := by
  have key : ∀ N n, n < N → ∀ e h, I n e h → Run P ng sp Q (.scope body :: K) (.code rest) e h := by
    intro N
    induction N with
    | zero => intro n hn; omega
    | succ N ih =>
      intro n hn e h hi
      refine (step n e h hi (fun ex e' h' => (ex = .goto l ∧ ∃ n', n' < n ∧ I n' e' h') ∨ ((∀ l, ex ≠ .goto l) ∧ J ex e' h')) (fun n' e' h' h1 h2 => .inl ⟨rfl, n', h1, h2⟩) (fun ex e' h' h1 h2 => .inr ⟨h1, h2⟩)).over ?_
      rintro ex e' h' (⟨rfl, n', h1, h2⟩ | ⟨h1, h2⟩)
      · exact .xscope hl (ih n' (by omega) e' h' h2)
      · exact .xscope' h1 (after _ _ _ h1 h2)
  exact key (n + 1) n (Nat.lt_succ_self n) e h hi
abbrev mkS (l : List UInt8) : ByteArray := ⟨l.toArray⟩
theorem mkS_data (s : ByteArray) : mkS s.data.toList = s := by cases s; rfl
theorem mkS_size (l : List UInt8) : (mkS l).size = l.length := rfl
theorem mkS_drop (l : List UInt8) (k : Nat) : (mkS l).extract k (mkS l).size = mkS (l.drop k) := by
  have : ((mkS l).extract k (mkS l).size).data = (mkS (l.drop k)).data := by
    rw [ByteArray.data_extract]
    show (l.toArray).extract k l.length = (l.drop k).toArray
    rw [List.extract_toArray]
    congr 1
    show (l.drop k).take (l.length - k) = l.drop k
    exact List.take_of_length_le (by rw [List.length_drop]; omega)
  cases h1 : (mkS l).extract k (mkS l).size with
  | mk d => rw [h1] at this; exact congrArg ByteArray.mk this
theorem str_index {t : TypeId} (ht : tyTag P t = 3) {l : List UInt8} {i : Nat} {b : UInt8} (hb : l[i]? = some b) : effIndex P t (.string (mkS l)) (.int .i64 (i : Int)) = ret (.int .u8 b.toNat) := by
  have hi := (List.getElem?_eq_some_iff.1 hb).1
  rw [effIndex_str t _ _ ht]
  have : idx (.int .i64 (i : Int)) (mkS l).size = some i := by
    unfold idx
    have : Nat.blt i l.length = true := by unfold Nat.blt; exact Nat.ble_eq_true_of_le hi
    simp only [mkS_size, this, cond_true]
  rw [this]
  show opR ((l[i]?).map _) = _
  rw [hb]; rfl
theorem str_tail {t : TypeId} (ht : tyTag P t = 3) {l : List UInt8} (hl : 1 ≤ l.length) (g : Nat → Option Blk) : effSlice P t (.string (mkS l)) (some (.int .i64 1)) none none g = ret (.string (mkS (l.drop 1))) := by
  rw [effSlice_str t _ _ _ g ht]
  have : bounds (mkS l).size (mkS l).size (some (.int .i64 1)) none none = some (1, (mkS l).size, (mkS l).size) := by
    rw [u_bounds, bnd_none]
    simp only
    rw [show (some (Value.int IntKind.i64 1)) = some (Value.int IntKind.i64 ((1 : Nat) : Int)) from rfl, bnd_int, if_pos ⟨by omega, by rw [mkS_size]; omega⟩]
    simp [mkS_size]
  rw [this]
  simp only
  rw [mkS_drop]
def u8s (l : List UInt8) : List Value := l.map fun b => .int .u8 b.toNat
theorem u8s_len (l : List UInt8) : (u8s l).length = l.length := List.length_map ..
theorem bytes_go : ∀ (l acc : List UInt8), bytesAt.go (u8s l) acc = some ⟨(acc.reverse ++ l).toArray⟩
  | [], acc => by rw [List.append_nil]; rfl
  | b :: l, acc => by
    show bytesAt.go (u8s l) (UInt8.ofNat ((b.toNat : Int)).toNat :: acc) = _
    rw [bytes_go l, Int.toNat_natCast, UInt8.ofNat_toNat, List.reverse_cons, List.append_assoc]; rfl
theorem bytes_at {g : Option Blk} {l : List UInt8} {k : Kind} (hg : g = some (cellsB (u8s l) k)) : bytesAt g 0 l.length = some (mkS l) := by
  subst hg
  unfold bytesAt cellsB
  simp only
  rw [if_pos (by rw [u8s_len]; omega), loadL_ofList _ _ _ (by rw [u8s_len]; omega), List.drop_zero, List.take_of_length_le (by rw [u8s_len]; omega), bytes_go]
  simp
end Go.AM
end
section
/- Rows that grow; texts that are gone through rune by rune. Conditions: as each rule says. -/
namespace Go.AM
variable {P : Program} {h : Heap}
structure RowG (h : Heap) (lo s : Nat) (v : Value) (n : Nat) (L : List Value) : Prop where
  len : L.length = n * s
  is : (v = .slice none 0 0 ∧ L = [] ∧ n = 0) ∨ ∃ b, lo ≤ b ∧ b < h.nx ∧ v = .slice (some ⟨b, 0, none⟩) n n ∧ h.get b = some (cellsB L (.loose s))
theorem RowG.nil {lo s : Nat} : RowG h lo s (.slice none 0 0) 0 [] := ⟨by simp, .inl ⟨rfl, rfl, rfl⟩⟩
theorem RowG.keep {h' : Heap} {lo s : Nat} {v : Value} {n : Nat} {L : List Value} (x : RowG h lo s v n L) (hn : h.nx ≤ h'.nx) (hk : ∀ b, lo ≤ b → b < h.nx → b ∈ blkOf v → h'.get b = h.get b) : RowG h' lo s v n L := by
  refine ⟨x.len, ?_⟩
  rcases x.is with ⟨h1, h2, h3⟩ | ⟨b, h1, h2, rfl, h4⟩
  · exact .inl ⟨h1, h2, h3⟩
  · exact .inr ⟨b, h1, by omega, rfl, (hk b h1 h2 (List.mem_singleton.2 rfl)).trans h4⟩
theorem RowG.lt {lo s : Nat} {v : Value} {n : Nat} {L : List Value} (x : RowG h lo s v n L) : ∀ b ∈ blkOf v, lo ≤ b ∧ b < h.nx := by
  intro b hb
  rcases x.is with ⟨rfl, h2, h3⟩ | ⟨b', h1, h2, rfl, h4⟩
  · cases hb
  · rw [List.mem_singleton.1 hb]; exact ⟨h1, h2⟩
theorem RowG.mono {lo lo' k n : Nat} {v : Value} {L : List Value} (x : RowG h lo k v n L) (hl : lo' ≤ lo) : RowG h lo' k v n L := by
  refine ⟨x.len, ?_⟩
  rcases x.is with h1 | ⟨b, h1, h2⟩
  · exact .inl h1
  · exact .inr ⟨b, by omega, h2⟩
theorem RowG.slc {lo k n : Nat} {v : Value} {L : List Value} (x : RowG h lo k v n L) : ∃ a, v = .slice a n n := by
  rcases x.is with ⟨rfl, _, rfl⟩ | ⟨b, _, _, rfl, _⟩ <;> exact ⟨_, rfl⟩
theorem growG {ts : Array TypeId} {z : List Value} {lo s mb n k : Nat} {v x : Value} {L new : List Value} (ht : appT P ts = some (z, s, mb)) (g : RowG h lo s v n L) (hlo : lo ≤ h.nx) (hx : lenV x = some k) (hk : k ≠ 0) (hsz : (n + k) * mb * 4 ≤ 2 ^ 40) (hnew : firstL h.get s k x = some new) (hl : new.length = k * s) :
    ∃ E h3 w, aAppend P ts v x h.get h.nx = some E ∧ E.val = w ∧ h.apply E = h3 ∧ RowG h3 lo s w (n + k) (L ++ new) ∧ h3.nx = h.nx + 1 ∧ (∀ b', b' < h.nx → b' ∉ blkOf v → h3.get b' = h.get b') ∧ blkOf w = [h.nx] := by
  have hlen : (L ++ new).length = (n + k) * s := by rw [List.length_append, g.len, hl, Nat.add_mul]
  rcases g.is with ⟨rfl, rfl, rfl⟩ | ⟨b, h1, h2, rfl, h4⟩
  · refine ⟨_, _, _, aAppend_nil ht k x h.get h.nx hx hk (by simpa using hsz) hnew, rfl, rfl, ⟨hlen, .inr ⟨h.nx, hlo, ?_, ?_, ?_⟩⟩, ?_, fun b' hb' _ => ?_, rfl⟩
    · rw [Heap.apply_nw, Heap.nx_new]; omega
    · rw [Nat.zero_add]
    · rw [Heap.apply_nw, Heap.get_new_same]; rfl
    · rw [Heap.apply_nw, Heap.nx_new]
    · rw [Heap.apply_nw, Heap.get_new_ne _ _ (by omega)]
  · refine ⟨_, _, _, aAppend_loose ht b n k x h.get h.nx h4 g.len hx hk hsz hnew, rfl, rfl, ⟨hlen, .inr ⟨h.nx, hlo, ?_, rfl, ?_⟩⟩, ?_, fun b' hb' hn => ?_, rfl⟩
    · rw [Heap.apply_wr_nw, Heap.nx_new, Heap.nx_upd]; omega
    · rw [Heap.apply_wr_nw, Heap.get_new_at _ (by rw [Heap.nx_upd]; omega)]
    · rw [Heap.apply_wr_nw, Heap.nx_new, Heap.nx_upd]
    · rw [Heap.apply_wr_nw, Heap.get_new_ne _ _ (by rw [Heap.nx_upd]; omega), Heap.get_upd_ne _ _ (fun e => hn (List.mem_singleton.2 e))]
theorem u_rangeS {t : TypeId} (hu : P.underlying t = some .string) (s : ByteArray) (g : Nat → Option Blk) (nx : Nat) : effRange P t (.string s) g nx = some ⟨.pointer (some ⟨nx, 0, none⟩), [], [.str s 0]⟩ := by
  unfold effRange; rw [hu]; rfl
theorem u_nextS {r pos : Nat} {s : ByteArray} {g : Nat → Option Blk} (hg : g r = some (.str s pos)) (hp : pos < s.size) {c w : Nat} (hd : Utf8.decode s pos = (c, w)) : effNext (.pointer (some ⟨r, 0, none⟩)) true g = some ⟨.tuple #[.bool true, .int .i64 pos, .int .i32 c], [(r, .str s (pos + w))], []⟩ := by
  unfold effNext effNextS
  simp only [hg]
  rw [if_pos hp, hd]
theorem u_nextE {r pos : Nat} {s : ByteArray} {g : Nat → Option Blk} (hg : g r = some (.str s pos)) (hp : ¬ pos < s.size) : effNext (.pointer (some ⟨r, 0, none⟩)) true g = ret (.tuple #[.bool false]) := by
  unfold effNext effNextS
  simp only [hg]
  rw [if_neg hp]
theorem mkS_get {l : List UInt8} {i : Nat} {b : UInt8} (hb : l[i]? = some b) : (mkS l).get! i = b := by
  show (l.toArray)[i]! = b
  rw [getElem!_def, List.getElem?_toArray, hb]
theorem dec_lo {l : List UInt8} {i : Nat} {b : UInt8} (hb : l[i]? = some b) (h : b.toNat < 128) : Utf8.decode (mkS l) i = (b.toNat, 1) := by
  unfold Utf8.decode
  simp only [Nat.add_zero, mkS_get hb]
  rw [if_pos h]
theorem dec_cont {l : List UInt8} {j : Nat} (h : (decide (j < (mkS l).size) && ((mkS l).get! j).toNat / 64 == 2) = true) : ∃ c, l[j]? = some c ∧ 128 ≤ c.toNat := by
  simp only [Bool.and_eq_true, decide_eq_true_eq, beq_iff_eq] at h
  rw [mkS_size] at h
  refine ⟨l[j], List.getElem?_eq_getElem h.1, ?_⟩
  have := h.2
  rw [mkS_get (List.getElem?_eq_getElem h.1)] at this
  omega
theorem dec_hi {l : List UInt8} {i : Nat} {b : UInt8} (hb : l[i]? = some b) (h : 128 ≤ b.toNat) : ∃ c w, Utf8.decode (mkS l) i = (c, w) ∧ 128 ≤ c ∧ c < 2097152 ∧ 1 ≤ w ∧ ∀ j, i < j → j < i + w → ∃ c, l[j]? = some c ∧ 128 ≤ c.toNat := by
  have hone : ∀ j, i < j → j < i + 1 → ∃ c, l[j]? = some c ∧ 128 ≤ c.toNat := fun j h1 h2 => by omega
  have hb256 := b.toNat_lt
  unfold Utf8.decode
  simp only [Nat.add_zero, mkS_get hb]
  rw [if_neg (by omega)]
  by_cases c1 : (b.toNat / 32 == 6 && (decide (i + 1 < (mkS l).size) && ((mkS l).get! (i + 1)).toNat / 64 == 2)) = true
  · rw [if_pos c1]
    have c1' := c1
    rw [Bool.and_eq_true] at c1'
    have q1 := dec_cont c1'.2
    have l1 := ((mkS l).get! (i + 1)).toNat_lt
    split
    · exact ⟨_, _, rfl, by omega, by omega, by omega, fun j h1 h2 => by rw [show j = i + 1 by omega]; exact q1⟩
    · exact ⟨_, _, rfl, by decide, by decide, by omega, hone⟩
  rw [if_neg c1]
  by_cases c2 : (b.toNat / 16 == 14 && (decide (i + 1 < (mkS l).size) && ((mkS l).get! (i + 1)).toNat / 64 == 2) && (decide (i + 2 < (mkS l).size) && ((mkS l).get! (i + 2)).toNat / 64 == 2)) = true
  · rw [if_pos c2]
    have c2' := c2
    rw [Bool.and_eq_true, Bool.and_eq_true] at c2'
    have q1 := dec_cont c2'.1.2
    have q2 := dec_cont c2'.2
    split
    · rename_i hv
      simp only [Bool.and_eq_true, decide_eq_true_eq] at hv
      refine ⟨_, _, rfl, by omega, by omega, by omega, fun j h1 h2 => ?_⟩
      rcases (show j = i + 1 ∨ j = i + 2 by omega) with e | e
      · rw [e]; exact q1
      · rw [e]; exact q2
    · exact ⟨_, _, rfl, by decide, by decide, by omega, hone⟩
  rw [if_neg c2]
  by_cases c3 : (b.toNat / 8 == 30 && (decide (i + 1 < (mkS l).size) && ((mkS l).get! (i + 1)).toNat / 64 == 2) && (decide (i + 2 < (mkS l).size) && ((mkS l).get! (i + 2)).toNat / 64 == 2) && (decide (i + 3 < (mkS l).size) && ((mkS l).get! (i + 3)).toNat / 64 == 2)) = true
  · rw [if_pos c3]
    have c3' := c3
    rw [Bool.and_eq_true, Bool.and_eq_true, Bool.and_eq_true] at c3'
    have q1 := dec_cont c3'.1.1.2
    have q2 := dec_cont c3'.1.2
    have q3 := dec_cont c3'.2
    split
    · rename_i hv
      simp only [Bool.and_eq_true, decide_eq_true_eq] at hv
      refine ⟨_, _, rfl, by omega, by omega, by omega, fun j h1 h2 => ?_⟩
      rcases (show j = i + 1 ∨ j = i + 2 ∨ j = i + 3 by omega) with e | e | e
      · rw [e]; exact q1
      · rw [e]; exact q2
      · rw [e]; exact q3
    · exact ⟨_, _, rfl, by decide, by decide, by omega, hone⟩
  rw [if_neg c3]
  exact ⟨_, _, rfl, by decide, by decide, by omega, hone⟩
theorem dec_any {l : List UInt8} {i : Nat} {b : UInt8} (hb : l[i]? = some b) : ∃ c w, Utf8.decode (mkS l) i = (c, w) ∧ c < 2097152 ∧ 1 ≤ w ∧ (∀ k : Nat, k < 128 → (c = k ↔ b.toNat = k)) ∧ ∀ j, i < j → j < i + w → ∃ d, l[j]? = some d ∧ 128 ≤ d.toNat := by
  by_cases h : b.toNat < 128
  · exact ⟨_, _, dec_lo hb h, by omega, Nat.le_refl _, fun k _ => Iff.rfl, fun j h1 h2 => by omega⟩
  · obtain ⟨c, w, h1, h2, h3, h4, h5⟩ := dec_hi hb (by omega)
    exact ⟨c, w, h1, h3, h4, fun k hk => ⟨fun e => by omega, fun e => by omega⟩, h5⟩
/- ## Texts -/
theorem str_eqG (t : TypeId) (x y : Operand) (a b : List UInt8) (g : Nat → Option Blk) : effBin P .eql t x y (.string (mkS a)) (.string (mkS b)) g = ret (.bool (decide (a = b))) := by
  rw [effBin_str]
  show ret (.bool (a == b)) = _
  rw [show (a == b) = decide (a = b) by rw [Bool.eq_iff_iff, beq_iff_eq, decide_eq_true_iff]]
theorem str_neG (t : TypeId) (x y : Operand) (a b : List UInt8) (g : Nat → Option Blk) : effBin P .neq t x y (.string (mkS a)) (.string (mkS b)) g = ret (.bool (decide (a ≠ b))) := by
  rw [effBin_str]
  show ret (.bool !(a == b)) = _
  rw [show (!(a == b)) = decide (a ≠ b) by rw [Bool.eq_iff_iff, Bool.not_eq_true', beq_eq_false_iff_ne, decide_eq_true_iff]]
theorem mkS_extract (l : List UInt8) (a b : Nat) : (mkS l).extract a b = mkS ((l.drop a).take (b - a)) := by
  have : ((mkS l).extract a b).data = (mkS ((l.drop a).take (b - a))).data := by
    rw [ByteArray.data_extract]
    show (l.toArray).extract a b = ((l.drop a).take (b - a)).toArray
    rw [List.extract_toArray]
  cases h1 : (mkS l).extract a b with
  | mk d => rw [h1] at this; exact congrArg ByteArray.mk this
theorem str_slice {t : TypeId} (ht : tyTag P t = 3) {l : List UInt8} {a b : Nat} (h1 : a ≤ b) (h2 : b ≤ l.length) (g : Nat → Option Blk) : effSlice P t (.string (mkS l)) (some (.int .i64 (a : Int))) (some (.int .i64 (b : Int))) none g = ret (.string (mkS ((l.drop a).take (b - a)))) := by
  rw [effSlice_str t _ _ _ g ht]
  have : bounds (mkS l).size (mkS l).size (some (.int .i64 (a : Int))) (some (.int .i64 (b : Int))) none = some (a, b, (mkS l).size) := by
    rw [u_bounds, bnd_int, if_pos ⟨by omega, by rw [mkS_size]; omega⟩]
    simp only [Int.toNat_natCast]
    rw [bnd_int, if_pos ⟨by omega, by omega⟩]
    simp [mkS_size, h2]
  rw [this]
  simp only
  rw [mkS_extract]
theorem str_from {t : TypeId} (ht : tyTag P t = 3) {l : List UInt8} {a : Nat} (h1 : a ≤ l.length) (g : Nat → Option Blk) : effSlice P t (.string (mkS l)) (some (.int .i64 (a : Int))) none none g = ret (.string (mkS (l.drop a))) := by
  rw [effSlice_str t _ _ _ g ht]
  have : bounds (mkS l).size (mkS l).size (some (.int .i64 (a : Int))) none none = some (a, (mkS l).size, (mkS l).size) := by
    rw [u_bounds, bnd_none]
    simp only
    rw [bnd_int, if_pos ⟨by omega, by rw [mkS_size]; omega⟩]
    simp [mkS_size]
  rw [this]
  simp only
  rw [mkS_drop]
theorem str_to {t : TypeId} (ht : tyTag P t = 3) {l : List UInt8} {b : Nat} (h2 : b ≤ l.length) (g : Nat → Option Blk) : effSlice P t (.string (mkS l)) none (some (.int .i64 (b : Int))) none g = ret (.string (mkS (l.take b))) := by
  rw [effSlice_str t _ _ _ g ht]
  have : bounds (mkS l).size (mkS l).size none (some (.int .i64 (b : Int))) none = some (0, b, (mkS l).size) := by
    rw [u_bounds, bnd_int, if_pos ⟨by omega, by rw [mkS_size]; omega⟩]
    simp only [Int.toNat_natCast]
    rw [bnd_none]
    simp [mkS_size, h2]
  rw [this]
  simp only
  rw [mkS_extract, List.drop_zero, Nat.sub_zero]
def strs (l : List (List UInt8)) : List Value := l.map fun x => .string (mkS x)
theorem strs_len (l : List (List UInt8)) : (strs l).length = l.length := List.length_map ..
theorem strs_app (a b : List (List UInt8)) : strs (a ++ b) = strs a ++ strs b := List.map_append
theorem strs_at {l : List (List UInt8)} {i : Nat} {x : List UInt8} (h : l[i]? = some x) : (strs l)[i]? = some (.string (mkS x)) := by
  unfold strs; rw [List.getElem?_map, h]; rfl
end Go.AM
end
section
/- Specials for the library's texts: IndexByte, Compare, Repeat, a Builder's copyCheck and String. -/
namespace Go.AM
open Go.Proofs Go.Shelf Go.RowKit
variable {P : Program} {ρ : Ren} {ng : Nat}

/- ## what is new and none's -/
theorem HRel.other {m : Mp} {G : Nat → Option Blk} {w w' : World} (h : HRel m G w) (hw : ∀ b l, m b = .live l → w'.heap[l.cb]? = w.heap[l.cb]?) : HRel m G w' :=
  ⟨fun b => (h.blk b).mono (.refl m) (fun l hl => hw b l hl), h.inj⟩
theorem HRel.below {m : Mp} {G : Nat → Option Blk} {w w' : World} (h : HRel m G w) (hb : Below w.heap.size w w') : HRel m G w' ∧ Step m w m w' :=
  ⟨h.other fun _ _ hl => hb.block _ (h.lt hl), .refl m, hb.size, hb.os, hb.output, fun cb hc _ => hb.block cb hc, fun b l hl hr => .inr ⟨b, l, hl, hr, rfl⟩, fun _ _ hl _ => hl⟩

noncomputable def pureF (v : List Value → Option Value) (_ : Caller) (args : List Value) (h : Heap) : Option (Out × Heap) := (v args).map fun r => (.ret r, h)
theorem pureF_ok {v : List Value → Option Value} {f : FuncId} (hen : Enter P f)
    (hv : ∀ args r, v args = some r → args.all plainCell = true ∧ plainCell r = true ∧ ∀ w, Calls P f args.toArray w fun e w' => e = .returned r ∧ Below w.heap.size w w') (cl : Caller) :
    CallOkAt P ng f (pureF v cl) := by
  intro args h o h' hr hwf
  unfold pureF at hr
  obtain ⟨r, h1, h2⟩ := Option.map_eq_some_iff.1 hr
  simp only [Prod.mk.injEq] at h2
  obtain ⟨rfl, rfl⟩ := h2
  obtain ⟨p1, p2, p3⟩ := hv args r h1
  refine ⟨hen, hwf, Nat.le_refl _, fun N F m w args' hN hh hgl ha => ?_⟩
  rw [plainCells_eq p1 ha]
  refine (p3 w).mono ?_
  rintro e w' ⟨rfl, hb⟩
  obtain ⟨q1, q2⟩ := hh.below hb
  exact ⟨m, ⟨r, rfl, (plainCell_rel p2).1⟩, q1, q2⟩

/- ## IndexByte -/
noncomputable def idxA (l : List UInt8) (c : Nat) (i : Nat) : Int :=
  List.rec (motive := fun _ => Nat → Int) (fun _ => Int.negSucc 0) (fun b _ ih i => cond (Nat.beq b.toNat c) (Int.ofNat i) (ih (Nat.succ i))) l i
theorem idxA_eq (l : List UInt8) (c : UInt8) : ∀ i, idxA l c.toNat i = if Lib.indexByte l c = -1 then -1 else Lib.indexByte l c + i := by
  have hnn : ∀ l : List UInt8, Lib.indexByte l c = -1 ∨ 0 ≤ Lib.indexByte l c := by
    intro l
    induction l with
    | nil => exact .inl rfl
    | cons b r ih =>
      unfold Lib.indexByte
      by_cases h1 : (b == c) = true
      · rw [if_pos h1]; exact .inr (by omega)
      · rw [if_neg h1]
        by_cases h2 : (Lib.indexByte r c == -1) = true
        · rw [if_pos h2]; exact .inl rfl
        · rw [if_neg h2]
          rcases ih with h | h
          · exact absurd (by rw [h]; rfl) h2
          · exact .inr (by omega)
  induction l with
  | nil => intro i; rfl
  | cons b r ih =>
    intro i
    show cond (Nat.beq b.toNat c.toNat) (Int.ofNat i) (idxA r c.toNat (i + 1)) = _
    unfold Lib.indexByte
    by_cases h1 : b = c
    · subst h1
      rw [Nat.beq_refl]
      simp
    · have h2 : Nat.beq b.toNat c.toNat = false := by
        rw [← Bool.not_eq_true, Nat.beq_eq]
        exact fun e => h1 (UInt8.toNat_inj.1 e)
      rw [h2, cond_false, ih]
      have h3 : (b == c) = false := by simpa using h1
      rw [h3]
      simp only [Bool.false_eq_true, if_false]
      by_cases h4 : Lib.indexByte r c = -1
      · simp [h4]
      · have h5 := (hnn r).resolve_left h4
        have h6 : (Lib.indexByte r c == -1) = false := by simpa using h4
        rw [if_neg h4, h6]
        simp only [Bool.false_eq_true, if_false]
        rw [if_neg (by omega), Int.natCast_succ]
        omega
/- ## Compare -/
noncomputable def cmpA (a b : List UInt8) : Int :=
  List.rec (motive := fun _ => List UInt8 → Int) (fun b => List.rec (motive := fun _ => Int) (Int.ofNat 0) (fun _ _ _ => Int.negSucc 0) b)
    (fun x _ ih b => List.rec (motive := fun _ => Int) (Int.ofNat 1) (fun y s _ => cond (Nat.blt x.toNat y.toNat) (Int.negSucc 0) (cond (Nat.blt y.toNat x.toNat) (Int.ofNat 1) (ih s))) b) a b
theorem cmpA_eq : ∀ (a b : List UInt8), cmpA a b = Lib.compareBytes a b
  | [], [] => rfl
  | [], _ :: _ => rfl
  | _ :: _, [] => rfl
  | x :: a, y :: b => by
    show cond (Nat.blt x.toNat y.toNat) (Int.negSucc 0) (cond (Nat.blt y.toNat x.toNat) (Int.ofNat 1) (cmpA a b)) = _
    unfold Lib.compareBytes
    rw [cmpA_eq a b]
    have e1 : Nat.blt x.toNat y.toNat = decide (x < y) := by
      rw [Bool.eq_iff_iff, Nat.blt_eq, decide_eq_true_iff, UInt8.lt_iff_toNat_lt]
    have e2 : Nat.blt y.toNat x.toNat = decide (y < x) := by
      rw [Bool.eq_iff_iff, Nat.blt_eq, decide_eq_true_iff, UInt8.lt_iff_toNat_lt]
    rw [e1, e2]
    by_cases h1 : x < y
    · simp [h1]
    · by_cases h2 : y < x <;> simp [h1, h2]
noncomputable def cmpV (args : List Value) : Option Value := match args with
  | [.string s, .string t] => some (.int .i64 (cmpA s.data.toList t.data.toList))
  | _ => none
theorem cmpF_ok (L : Lays.n213 P ρ) (hen : Enter P (ρ.f 213)) (cl : Caller) : CallOkAt P ng (ρ.f 213) (pureF cmpV cl) := by
  refine pureF_ok hen ?_ cl
  intro args r hr
  unfold cmpV at hr
  split at hr <;> try (simp at hr; done)
  rename_i s t
  simp only [Option.some.injEq] at hr
  subst hr
  refine ⟨rfl, rfl, fun w => (Any.bytealg_CompareString L s t w).mono ?_⟩
  rintro e w' ⟨rfl, rfl⟩
  exact ⟨by rw [cmpA_eq], Below.refl _ _⟩

/- ## Repeat -/
noncomputable def repB (l : List UInt8) (n : Nat) : List UInt8 := Nat.rec (motive := fun _ => List UInt8) [] (fun _ ih => l ++ ih) n
theorem repB_eq (l : List UInt8) : ∀ n, repB l n = Lib.repeatL l n
  | 0 => rfl
  | n + 1 => by show l ++ repB l n = _; rw [repB_eq l n]; rfl
noncomputable def repV (args : List Value) : Option Value := match args with
  | [.string s, .int .i64 (.ofNat n)] => cond (Nat.ble n 1000000 && Nat.ble s.size 1000000) (some (.string ⟨(repB s.data.toList n).toArray⟩)) none
  | _ => none
theorem repF_ok (L : Lays.n105 P ρ) (X : Builder.Extra P ρ) (hen : Enter P (ρ.f 105)) (cl : Caller) : CallOkAt P ng (ρ.f 105) (pureF repV cl) := by
  refine pureF_ok hen ?_ cl
  intro args r hr
  unfold repV at hr
  split at hr <;> try (simp at hr; done)
  rename_i s n
  cases hc : (Nat.ble n 1000000 && Nat.ble s.size 1000000) with
  | false => rw [hc] at hr; simp at hr
  | true =>
    rw [hc] at hr
    simp only [cond_true, Option.some.injEq] at hr
    subst hr
    simp only [Bool.and_eq_true] at hc
    have h1 := Nat.le_of_ble_eq_true hc.1
    have h2 := Nat.le_of_ble_eq_true hc.2
    have h3 : s.size * n ≤ 1000000 * 1000000 := Nat.mul_le_mul h2 h1
    refine ⟨rfl, rfl, fun w => (Any.strings_Repeat L X s n w (by omega) (by omega)).mono ?_⟩
    rintro e w' ⟨rfl, hb⟩
    exact ⟨by rw [repB_eq], hb⟩

/- ## copyCheck -/
noncomputable def ccF (tb : Nat) (_ : Caller) (args : List Value) (h : Heap) : Option (Out × Heap) := match args with
  | [.pointer (some ⟨b, off, none⟩)] => cond (Nat.beq off 0) (match h.get b with
    | some (.cells xs n (.bld t)) => cond (Nat.beq t tb && Nat.beq n 2) (match xs.get 0 with
      | some (.pointer none) => some (.ret (.tuple #[]), ⟨h.t.set b (.cells (storeL xs 0 [.pointer (some ⟨b, 0, none⟩)]) n (.bld t)), h.nx⟩)
      | some (.pointer (some ⟨b', o', none⟩)) => cond (Nat.beq b' b && Nat.beq o' 0) (some (.ret (.tuple #[]), h)) none
      | _ => none) none
    | _ => none) none
  | _ => none
theorem set_eq {w : World} {cb : Nat} {c : Array Value} {el : TypeId} {fr : Nat × Nat} (h : w.heap[cb]? = some (.cells c el fr)) (v : Value) :
    w.setCell ⟨cb, 0, none⟩ v = { w with heap := w.heap.setIfInBounds cb (.cells (overA c 0 [v]) el fr) } := by
  unfold World.setCell
  congr 1
  apply Array.ext_getElem?
  intro k
  rw [Array.getElem?_modify, Array.getElem?_setIfInBounds]
  by_cases e : cb = k
  · subst e
    have hlt : cb < w.heap.size := by
      rcases Nat.lt_or_ge cb w.heap.size with h' | h'
      · exact h'
      · rw [Array.getElem?_eq_none h'] at h; cases h
    simp only [if_true, hlt, h, Option.map_some, Option.isSome_none, Bool.false_eq_true, if_false]
    rfl
  · rw [if_neg e, if_neg e]
theorem ccF_ok (L : Lays.n240 P ρ) (X : Builder.X72 P ρ) (hen : Enter P (ρ.f 240)) (cl : Caller) : CallOkAt P ng (ρ.f 240) (ccF (ρ.t 72) cl) := by
  intro args h o h' hr hwf
  unfold ccF at hr
  split at hr <;> try (simp at hr; done)
  rename_i b off
  cases ho : Nat.beq off 0 with
  | false => rw [ho] at hr; simp at hr
  | true =>
  rw [ho] at hr
  obtain rfl := Nat.eq_of_beq_eq_true ho
  simp only [cond_true] at hr
  split at hr <;> try (simp at hr; done)
  rename_i xs n t hg
  cases ht : (Nat.beq t (ρ.t 72) && Nat.beq n 2) with
  | false => rw [ht] at hr; simp at hr
  | true =>
  rw [ht] at hr
  simp only [Bool.and_eq_true] at ht
  obtain rfl := Nat.eq_of_beq_eq_true ht.1
  obtain rfl := Nat.eq_of_beq_eq_true ht.2
  simp only [cond_true] at hr
  have key : ∀ (N : Nat) (F : Nat → Option Blk) (m : Mp) (w : World) (args' : List Value), h.nx ≤ N → HRel m (mix h N F) w → VRels m [.pointer (some ⟨b, 0, none⟩)] args' →
      ∃ l c v v', m b = .live l ∧ AtCells m w xs 2 (.bld (ρ.t 72)) l c (ρ.t 72) (0, 0) ∧ l.rw = true ∧ l.sh = 0 ∧ c.size = 2 ∧ args' = [.pointer (some ⟨l.cb, 0, none⟩)] ∧ xs.get 0 = some v ∧ w.cell? ⟨l.cb, 0, none⟩ = some v' ∧ VRel m v v' ∧
        w.shape? l.cb = some (ρ.t 72, 2) ∧ w.frozen? ⟨l.cb, 0, none⟩ = false := by
    intro N F m w args' hN hh ha
    obtain ⟨l, hm, c, el, fr, hc⟩ := hh.cells hwf hN hg
    obtain ⟨k1, k2, k3, k4, k5⟩ : l.rw = true ∧ l.sh = 0 ∧ l.csz = 2 ∧ fr = (0, 0) ∧ el = ρ.t 72 := hc.kind
    subst k4; subst k5
    obtain ⟨v, v', g1, g2, _, g4⟩ := hc.cell 0 (by omega)
    rw [k2] at g2
    have hcs : c.size = 2 := by rw [hc.csz, k3]
    have hheap := hc.heap
    cases ha with
    | cons _ a' _ r' ha hr' =>
    cases hr'
    have := ptr_live ha hm
    rw [k2] at this
    exact ⟨l, c, v, v', hm, hc, k1, k2, hcs, by rw [this], g1, by rw [cell_at hheap]; exact g2, g4, by simp [World.shape?, hheap, hcs], by rw [frozen_at hheap]; simp⟩
  split at hr <;> try (simp at hr; done)
  · rename_i hx0
    simp only [Option.some.injEq, Prod.mk.injEq] at hr
    obtain ⟨rfl, rfl⟩ := hr
    refine ⟨hen, ?_, Nat.le_refl _, fun N F m w args' hN hh hgl ha => ?_⟩
    · intro b' hb'
      have hne : b' ≠ b := by
        intro e; subst e
        have := hwf b' hb'
        rw [this] at hg; cases hg
      show (h.t.set b _).get b' = none
      rw [Trie.get_set_ne _ _ hne]
      exact hwf b' hb'
    · obtain ⟨l, c, v, v', hm, hc, k1, k2, hcs, rfl, g1, g2, g4, g5, g6⟩ := key N F m w args' hN hh ha
      rw [hx0] at g1
      simp only [Option.some.injEq] at g1
      subst g1
      cases g4
      refine (Any.Builder_copyCheck_fresh L X l.cb w g2 g5 g6).mono ?_
      rintro e w' ⟨rfl, rfl⟩
      have hN' : h.nx ≤ N := hN
      have hbr := wr_cells hc (off := 0) (vs := [.pointer (some ⟨b, 0, none⟩)]) (vs' := [.pointer (some ⟨l.cb, l.sh + 0, none⟩)]) (by simp) (.cons _ _ _ _ (.ptr b 0 l hm) .nil) rfl
      obtain ⟨r1, r2⟩ := wr_rel (v := .tuple #[]) hh (lt_of_get hwf hN' hg) hm k1 hbr
      rw [k2] at r1 r2
      rw [set_eq hc.heap]
      exact ⟨m, ⟨_, rfl, .undef⟩, r1, r2⟩
  · rename_i b' o' hx0
    cases hq : (Nat.beq b' b && Nat.beq o' 0) with
    | false => rw [hq] at hr; simp at hr
    | true =>
    rw [hq] at hr
    simp only [Bool.and_eq_true] at hq
    obtain rfl := Nat.eq_of_beq_eq_true hq.1
    obtain rfl := Nat.eq_of_beq_eq_true hq.2
    simp only [cond_true, Option.some.injEq, Prod.mk.injEq] at hr
    obtain ⟨rfl, rfl⟩ := hr
    refine ⟨hen, hwf, Nat.le_refl _, fun N F m w args' hN hh hgl ha => ?_⟩
    obtain ⟨l, c, v, v', hm, hc, k1, k2, hcs, rfl, g1, g2, g4, g5, g6⟩ := key N F m w args' hN hh ha
    rw [hx0] at g1
    simp only [Option.some.injEq] at g1
    subst g1
    have := ptr_live g4 hm
    subst this
    rw [k2] at g2
    refine (Any.Builder_copyCheck_used L X l.cb w g2).mono ?_
    rintro e w' ⟨rfl, rfl⟩
    exact ⟨m, ⟨_, rfl, .undef⟩, hh, .refl m w'⟩
end Go.AM
end
section
/- A special for a Builder's String: its bytes' row is given up. -/
namespace Go.AM
open Go.Proofs Go.Shelf Go.RowKit
variable {P : Program} {ρ : Ren} {ng : Nat}

set_option maxHeartbeats 2000000 in
set_option maxRecDepth 100000 in

theorem string_calls (L : Lays.n169 P ρ) (X : Builder.Extra P ρ) (b g cap : Nat) (l : List UInt8) (w : World) (h0 : l ≠ []) (hcap : cap ≠ 0) (c1 : w.cell? ⟨b, 1, none⟩ = some (.slice (some ⟨g, 0, none⟩) l.length cap))
    {cells : Nat} (hsh : w.shape? g = some (ρ.t 5, cells)) (hle : l.length ≤ cells) (hmax : l.length ≤ 1000000) (hcell : ∀ j x, l[j]? = some x → w.cell? ⟨g, j, none⟩ = some (.int .u8 x.toNat)) :
    Calls P (ρ.f 169) #[.pointer (some ⟨b, 0, none⟩)] w fun e w' => e = .returned (.string ⟨l.toArray⟩) ∧ w' = w.drew.freeze ⟨g, 0, none⟩ l.length := by
  have c1 : w.drew.cell? ⟨b, 1, none⟩ = some (.slice (some ⟨g, 0, none⟩) l.length cap) := c1
  have hSD : (Builtin.unsafeSliceData_ #[(ρ.t 37)] (ρ.t 127) #[.slice (some ⟨g, 0, none⟩) l.length cap]).run P w.drew = .ok (.pointer (some ⟨g, 0, none⟩)) w.drew :=
    Lib.run_unsafeSliceData_row _ _ _ _ _ _ hcap
  have hUS : (Builtin.unsafeString_ #[(ρ.t 127), (ρ.t 3)] (ρ.t 9) #[.pointer (some ⟨g, 0, none⟩), .int .i64 l.length]).run P w.drew = .ok (.string ⟨l.toArray⟩) (w.drew.freeze ⟨g, 0, none⟩ l.length) := by
    refine Lib.run_unsafeString_row w.drew (ρ.t 127) (ρ.t 3) (ρ.t 9) (ρ.t 5) L.t127 X.cellsByte g cells hsh l h0 hle (by omega) ?_
    intro j x hx
    rw [add_at, Nat.zero_add]
    exact hcell j x hx
  have mixed := L.mixed
  have t72 := L.t72; have a72 := L.a72; have z72 := L.z72; have v72 := L.v72; have u72 := run_underlying L.t72
  have t70 := L.t70; have a70 := L.a70; have z70 := L.z70; have v70 := L.v70; have u70 := run_underlying L.t70
  have t37 := L.t37; have a37 := L.a37; have z37 := L.z37; have v37 := L.v37; have u37 := run_underlying L.t37
  have t127 := L.t127; have a127 := L.a127; have z127 := L.z127; have v127 := L.v127; have u127 := run_underlying L.t127
  have t3 := L.t3; have a3 := L.a3; have z3 := L.z3; have v3 := L.v3; have u3 := run_underlying L.t3
  have t9 := L.t9; have a9 := L.a9; have z9 := L.z9; have v9 := L.v9; have u9 := run_underlying L.t9
  have t5 := X.t5; have a5 := X.a5; have z5 := X.z5; have v5 := X.v5; have u5 := run_underlying X.t5
  go_enter L.f169, Body.n169_ntmps ρ
  go_wp2
  go_region_o
  all_goals (go_wp2; go_ret; exact ⟨rfl, rfl⟩)

noncomputable def byV (v : Value) (r : Option (List UInt8)) : Option (List UInt8) := match v with
  | .int .u8 (.ofNat n) => cond (Nat.blt n 256) (r.map (UInt8.ofNat n :: ·)) none
  | _ => none
noncomputable def byL (l : List Value) : Option (List UInt8) := List.rec (motive := fun _ => Option (List UInt8)) (some []) (fun v _ ih => byV v ih) l
theorem byL_ok {m : Mp} : ∀ {l l' : List Value} {bs : List UInt8}, byL l = some bs → VRels m l l' → bs.length = l.length ∧ ∀ (j : Nat) (x : UInt8), bs[j]? = some x → l'[j]? = some (Value.int .u8 x.toNat) := by
  intro l
  induction l with
  | nil =>
    intro l' bs h _
    simp only [byL, Option.some.injEq] at h
    subst h
    exact ⟨rfl, fun j x hx => by simp at hx⟩
  | cons v r ih =>
    intro l' bs h hl
    have h2 : byV v (byL r) = some bs := h
    clear h
    cases hl with
    | cons _ v' _ r' hv hr =>
    unfold byV at h2
    split at h2 <;> try (simp at h2; done)
    rename_i n
    have h := h2
    cases hn : Nat.blt n 256 with
    | false => rw [hn] at h; simp at h
    | true =>
      rw [hn] at h
      simp only [cond_true] at h
      obtain ⟨bs', h1, rfl⟩ := Option.map_eq_some_iff.1 h
      obtain ⟨i1, i2⟩ := ih h1 hr
      have hn : n < 256 := by simpa [Nat.blt_eq] using hn
      cases hv
      refine ⟨by simp [i1], fun j x hx => ?_⟩
      cases j with
      | zero =>
        simp only [List.getElem?_cons_zero, Option.some.injEq] at hx ⊢
        subst hx
        have : (UInt8.ofNat n).toNat = n := by simp; omega
        rw [this]; rfl
      | succ j => simpa using i2 j x (by simpa using hx)

noncomputable def stF (tb te : Nat) (_ : Caller) (args : List Value) (h : Heap) : Option (Out × Heap) := match args with
  | [.pointer (some ⟨b, off, none⟩)] => cond (Nat.beq off 0) (match h.get b with
    | some (.cells xs n (.bld t)) => cond (Nat.beq t tb && Nat.beq n 2) (match xs.get 1 with
      | some (.slice (some ⟨g, o, none⟩) len cap) => cond (Nat.beq o 0 && Nat.ble 1 len && Nat.ble len cap && Nat.ble len 1000000) (match h.get g with
        | some (.cells ys mm (.own t')) => cond (Nat.beq t' te && Nat.ble len mm) (match byL (loadL ys 0 len) with
          | some bs => some (.ret (.string ⟨bs.toArray⟩), ⟨h.t.set g .dead, h.nx⟩)
          | none => none) none
        | _ => none) none
      | some (.slice none 0 0) => some (.ret (.string ⟨#[]⟩), h)
      | _ => none) none
    | _ => none) none
  | _ => none

theorem stF_ok (L : Lays.n169 P ρ) (X : Builder.Extra P ρ) (hen : Enter P (ρ.f 169)) (cl : Caller) : CallOkAt P ng (ρ.f 169) (stF (ρ.t 72) (ρ.t 5) cl) := by
  intro args h o h' hr hwf
  unfold stF at hr
  split at hr <;> try (simp at hr; done)
  rename_i b off
  cases ho : Nat.beq off 0 with
  | false => rw [ho] at hr; simp at hr
  | true =>
  rw [ho] at hr
  obtain rfl := Nat.eq_of_beq_eq_true ho
  simp only [cond_true] at hr
  split at hr <;> try (simp at hr; done)
  rename_i xs n t hg
  cases ht : (Nat.beq t (ρ.t 72) && Nat.beq n 2) with
  | false => rw [ht] at hr; simp at hr
  | true =>
  rw [ht] at hr
  simp only [Bool.and_eq_true] at ht
  obtain rfl := Nat.eq_of_beq_eq_true ht.1
  obtain rfl := Nat.eq_of_beq_eq_true ht.2
  simp only [cond_true] at hr
  have key : ∀ (N : Nat) (F : Nat → Option Blk) (m : Mp) (w : World) (args' : List Value), h.nx ≤ N → HRel m (mix h N F) w → VRels m [.pointer (some ⟨b, 0, none⟩)] args' →
      ∃ l p v v', m b = .live l ∧ args' = [.pointer (some ⟨l.cb, 0, none⟩)] ∧ xs.get 1 = some v ∧ w.heap[l.cb]? = some (.cells #[p, v'] (ρ.t 72) (0, 0)) ∧ VRel m v v' := by
    intro N F m w args' hN hh ha
    obtain ⟨l, hm, c, el, fr, hc⟩ := hh.cells hwf hN hg
    obtain ⟨k1, k2, k3, k4, k5⟩ : l.rw = true ∧ l.sh = 0 ∧ l.csz = 2 ∧ fr = (0, 0) ∧ el = ρ.t 72 := hc.kind
    subst k4; subst k5
    obtain ⟨v0, v0', _, f2, _, _⟩ := hc.cell 0 (by omega)
    obtain ⟨v, v', g1, g2, _, g4⟩ := hc.cell 1 (by omega)
    rw [k2] at g2 f2
    have hcs : c.size = 2 := by rw [hc.csz, k3]
    have hheap := hc.heap
    cases ha with
    | cons _ a' _ r' ha hr' =>
    cases hr'
    have := ptr_live ha hm
    rw [k2] at this
    refine ⟨l, v0', v, v', hm, by rw [this], g1, ?_, g4⟩
    rw [hheap]
    congr 2
    apply Array.ext_getElem?
    intro i
    match i with
    | 0 => rw [f2]; rfl
    | 1 => rw [g2]; rfl
    | i + 2 => rw [Array.getElem?_eq_none (by omega), Array.getElem?_eq_none (by simp)]
  split at hr <;> try (simp at hr; done)
  · rename_i g o len cap hx1
    cases hq : (Nat.beq o 0 && Nat.ble 1 len && Nat.ble len cap && Nat.ble len 1000000) with
    | false => rw [hq] at hr; simp at hr
    | true =>
    rw [hq] at hr
    simp only [Bool.and_eq_true] at hq
    obtain ⟨⟨⟨q1, q2⟩, q3⟩, q4⟩ := hq
    obtain rfl := Nat.eq_of_beq_eq_true q1
    have q2 := Nat.le_of_ble_eq_true q2
    have q3 := Nat.le_of_ble_eq_true q3
    have q4 := Nat.le_of_ble_eq_true q4
    simp only [cond_true] at hr
    split at hr <;> try (simp at hr; done)
    rename_i ys mm t' hgg
    cases ht : (Nat.beq t' (ρ.t 5) && Nat.ble len mm) with
    | false => rw [ht] at hr; simp at hr
    | true =>
    rw [ht] at hr
    simp only [Bool.and_eq_true] at ht
    obtain rfl := Nat.eq_of_beq_eq_true ht.1
    have hlm := Nat.le_of_ble_eq_true ht.2
    simp only [cond_true] at hr
    split at hr <;> try (simp at hr; done)
    rename_i bs hbs
    simp only [Option.some.injEq, Prod.mk.injEq] at hr
    obtain ⟨rfl, rfl⟩ := hr
    refine ⟨hen, ?_, Nat.le_refl _, fun N F m w args' hN hh hgl ha => ?_⟩
    · intro b' hb'
      have hne : b' ≠ g := by
        intro e; subst e
        have := hwf b' hb'
        rw [this] at hgg; cases hgg
      show (h.t.set g _).get b' = none
      rw [Trie.get_set_ne _ _ hne]
      exact hwf b' hb'
    · have hN' : h.nx ≤ N := hN
      obtain ⟨l, p, v, v', hm, rfl, g1, g2, g4⟩ := key N F m w args' hN' hh ha
      rw [hx1] at g1
      simp only [Option.some.injEq] at g1
      subst g1
      obtain ⟨lg, hmg, c, el, fr, hc⟩ := hh.cells hwf hN' hgg
      obtain ⟨k1, k2, k3, k4, k5⟩ : lg.rw = true ∧ fr = (0, 0) ∧ lg.esz = 1 ∧ el = ρ.t 5 ∧ lg.sh = 0 := hc.kind
      subst k2; subst k4
      have hfit := hc.fit
      have hcsz := hc.csz
      have hrel := (cells_rel hc.cell (k := len) (off := 0) (by omega) (by omega)).1
      obtain ⟨b1, b2⟩ := byL_ok hbs hrel
      rw [length_loadL] at b1
      rcases slice_live g4 hmg with ⟨cap2, hx2, hsr⟩ | ⟨z1, z2, z3, a2, hx2⟩
      · subst hx2
        have hcc : cap ≤ cap2 := by rcases hsr with r | ⟨_, _, _, r⟩ <;> omega
        rw [k5] at g2 b2
        have hcall := string_calls L X l.cb lg.cb cap2 bs w (fun e => by rw [e] at b1; simp at b1; omega) (by omega)
          (by rw [b1]; simp [World.cell?, g2]) (cells := c.size) (by simp [World.shape?, hc.heap]) (by omega) (by omega) (by
            intro j x hx
            rw [cell_at hc.heap]
            have := b2 j x hx
            rw [List.getElem?_take, List.getElem?_drop] at this
            split at this
            · simpa using this
            · cases this)
        refine hcall.mono ?_
        rintro e w' ⟨rfl, rfl⟩
        obtain ⟨r1, r2⟩ := hh.kill hmg k1
        have hheap : ∀ cb, cb ≠ lg.cb → (w.drew.freeze ⟨lg.cb, 0, none⟩ bs.length).heap[cb]? = w.heap[cb]? := by
          intro cb hcb
          unfold World.freeze
          split
          · rfl
          · show (w.heap.modify lg.cb _)[cb]? = _
            rw [Array.getElem?_modify, if_neg (Ne.symm hcb)]
        have hsz : (w.drew.freeze ⟨lg.cb, 0, none⟩ bs.length).heap.size = w.heap.size := by
          unfold World.freeze
          split
          · rfl
          · show (w.heap.modify lg.cb _).size = _
            rw [Array.size_modify]
        have hos : (w.drew.freeze ⟨lg.cb, 0, none⟩ bs.length).os = w.os ∧ (w.drew.freeze ⟨lg.cb, 0, none⟩ bs.length).output = w.output := by
          unfold World.freeze
          split <;> exact ⟨rfl, rfl⟩
        have hro : roB (mix h N F g) = false := roB_rw (hmg ▸ hh.blk g) k1
        have r3 := r1.other (w' := w.drew.freeze ⟨lg.cb, 0, none⟩ bs.length) (by
          intro b' l' hl'
          by_cases e : b' = g
          · simp only [if_pos e] at hl'; cases hl'
          · simp only [if_neg e] at hl'
            exact hheap _ fun e' => e (hh.inj g b' lg l' hmg hl' e'.symm hro).symm)
        refine ⟨_, ⟨_, rfl, .string _⟩, ?_, r2.ext, Nat.le_of_eq hsz.symm, hos.1, hos.2, ?_, r2.new, r2.old⟩
        · have := mix_set h N F .dead h.nx (lt_of_get hwf hN' hgg)
          rw [this]
          exact r3
        · intro cb _ hcb
          exact hheap cb fun e => hcb g lg hmg k1 e.symm
      · omega
  · rename_i hx1
    simp only [Option.some.injEq, Prod.mk.injEq] at hr
    obtain ⟨rfl, rfl⟩ := hr
    refine ⟨hen, hwf, Nat.le_refl _, fun N F m w args' hN hh hgl ha => ?_⟩
    obtain ⟨l, p, v, v', hm, rfl, g1, g2, g4⟩ := key N F m w args' hN hh ha
    rw [hx1] at g1
    simp only [Option.some.injEq] at g1
    subst g1
    cases g4
    refine (Any.Builder_String_nil L X w.heap.size l.cb p w g2).mono ?_
    rintro e w' ⟨rfl, hb⟩
    obtain ⟨q1, q2⟩ := hh.below hb
    exact ⟨m, ⟨_, rfl, .string _⟩, q1, q2⟩
end Go.AM
end
section
/- Special for Index of a text of one byte. -/
namespace Go.AM
open Go.Proofs Go.Shelf Go.RowKit
variable {P : Program} {ρ : Ren} {ng : Nat}
noncomputable def ixoL (s : ByteArray) (l : List UInt8) : Option Value :=
  List.rec (motive := fun _ => Option Value) none (fun b r _ => List.rec (motive := fun _ => Option Value) (some (.int .i64 (idxA s.data.toList b.toNat 0))) (fun _ _ _ => none) r) l
noncomputable def ixoV (args : List Value) : Option Value := match args with
  | [.string s, .string t] => ixoL s t.data.toList
  | _ => none
theorem ixoF_ok (L : Lays.n219 P ρ) (hen : Enter P (ρ.f 219)) (cl : Caller) : CallOkAt P ng (ρ.f 219) (pureF ixoV cl) := by
  refine pureF_ok hen ?_ cl
  intro args r hr
  unfold ixoV at hr
  split at hr <;> try (simp at hr; done)
  rename_i s t
  obtain ⟨⟨l⟩⟩ := t
  match l, hr with
  | [], hr => simp [ixoL] at hr
  | _ :: _ :: _, hr => simp [ixoL] at hr
  | [c], hr =>
    simp only [ixoL, Option.some.injEq] at hr
    subst hr
    refine ⟨rfl, rfl, fun w => (Any.stringslite_Index_one L s c w).mono ?_⟩
    rintro e w' ⟨rfl, rfl⟩
    refine ⟨?_, Below.refl _ _⟩
    rw [idxA_eq s.data.toList c 0]
    show Ending.returned (.int .i64 (Lib.indexByte s.data.toList c)) = _
    congr 2
    by_cases h : Lib.indexByte s.data.toList c = -1
    · rw [if_pos h]; exact h
    · rw [if_neg h]; simp
end Go.AM
end
section
/- How many bits a word has set, by lanes. No condition. -/
namespace Go.AM
def popc : Nat → Nat → Nat
  | 0, _ => 0
  | k + 1, p => p % 2 + popc k (p / 2)
def rep (c : Nat) : Nat → Nat
  | 0 => 0
  | k + 1 => c + 256 * rep c k
theorem and_lane {lo hi c M : Nat} (h1 : lo < 256) (h2 : c < 256) : (lo + 256 * hi) &&& (c + 256 * M) = (lo &&& c) + 256 * (hi &&& M) := by
  have h3 : lo &&& c < 2 ^ 8 := Nat.and_lt_two_pow lo (by omega)
  apply Nat.eq_of_testBit_eq
  intro i
  have e1 : ∀ a b, a < 256 → (a + 256 * b).testBit i = if i < 8 then a.testBit i else b.testBit (i - 8) := fun a b h => by
    rw [show a + 256 * b = 2 ^ 8 * b + a by omega, Nat.testBit_two_pow_mul_add b (by omega) i]
  rw [Nat.testBit_and, e1 _ _ h1, e1 _ _ h2, e1 _ _ (by omega)]
  split
  · rw [Nat.testBit_and]
  · rw [Nat.testBit_and]
def popA (c : Nat) : Nat := ((c / 2) &&& 85) + (c &&& 85)
def popB (c : Nat) : Nat := ((c / 4) &&& 51) + (c &&& 51)
theorem popA1 : ∀ lo : Fin 256, ∀ b : Fin 2, ((lo.1 / 2 + 128 * b.1) &&& 85) = ((lo.1 / 2) &&& 85) ∧ lo.1 / 2 + 128 * b.1 < 256 := by decide +kernel
theorem popB1 : ∀ lo : Fin 256, ∀ b : Fin 4, ((lo.1 / 4 + 64 * b.1) &&& 51) = ((lo.1 / 4) &&& 51) ∧ lo.1 / 4 + 64 * b.1 < 256 := by decide +kernel
theorem popC1 : ∀ lo : Fin 256, ∀ b : Fin 5, ((popB (popA lo.1) / 16 + 16 * b.1 + popB (popA lo.1)) &&& 15) = popc 8 lo.1 ∧ popB (popA lo.1) / 16 + 16 * b.1 + popB (popA lo.1) < 256 := by decide +kernel
theorem popAB : ∀ lo : Fin 256, popA lo.1 < 256 ∧ popB (popA lo.1) < 256 ∧ popB (popA lo.1) % 16 ≤ 4 ∧ popc 8 lo.1 ≤ 8 := by decide +kernel
def popS1 (k x : Nat) : Nat := ((x / 2) &&& rep 85 k) + (x &&& rep 85 k)
def popS2 (k x : Nat) : Nat := ((x / 4) &&& rep 51 k) + (x &&& rep 51 k)
def popS3 (k x : Nat) : Nat := (x / 16 + x) &&& rep 15 k
theorem popS1_lane {k lo hi : Nat} (h : lo < 256) : popS1 (k + 1) (lo + 256 * hi) = popA lo + 256 * popS1 k hi := by
  unfold popS1 popA
  rw [show rep 85 (k + 1) = 85 + 256 * rep 85 k from rfl]
  have a := popA1 ⟨lo, h⟩ ⟨hi % 2, by omega⟩
  simp only at a
  rw [show (lo + 256 * hi) / 2 = (lo / 2 + 128 * (hi % 2)) + 256 * (hi / 2) by omega, and_lane a.2 (by omega), and_lane h (by omega), a.1]
  omega
theorem popS2_lane {k lo hi : Nat} (h : lo < 256) : popS2 (k + 1) (lo + 256 * hi) = popB lo + 256 * popS2 k hi := by
  unfold popS2 popB
  rw [show rep 51 (k + 1) = 51 + 256 * rep 51 k from rfl]
  have a := popB1 ⟨lo, h⟩ ⟨hi % 4, by omega⟩
  simp only at a
  rw [show (lo + 256 * hi) / 4 = (lo / 4 + 64 * (hi % 4)) + 256 * (hi / 4) by omega, and_lane a.2 (by omega), and_lane h (by omega), a.1]
  omega
def popT (k x : Nat) : Nat := popS3 k (popS2 k (popS1 k x))
theorem popW (k x : Nat) : popS2 k (popS1 k x) % 16 ≤ 4 := by
  cases k with
  | zero => unfold popS2 rep; simp
  | succ k =>
    have h : x % 256 < 256 := by omega
    have a := popAB ⟨x % 256, h⟩
    simp only at a
    rw [show x = x % 256 + 256 * (x / 256) by omega, popS1_lane h, popS2_lane a.1]
    omega
theorem popT_lane {k lo hi : Nat} (h : lo < 256) : popT (k + 1) (lo + 256 * hi) = popc 8 lo + 256 * popT k hi := by
  have a := popAB ⟨lo, h⟩
  have w := popW k hi
  have c := popC1 ⟨lo, h⟩ ⟨popS2 k (popS1 k hi) % 16, by omega⟩
  simp only at a c
  unfold popT
  rw [popS1_lane h, popS2_lane a.1]
  unfold popS3
  rw [show rep 15 (k + 1) = 15 + 256 * rep 15 k from rfl]
  generalize popS2 k (popS1 k hi) = z at *
  generalize popB (popA lo) = y at *
  rw [show (y + 256 * z) / 16 + (y + 256 * z) = (y / 16 + 16 * (z % 16) + y) + 256 * (z / 16 + z) by omega, and_lane c.2 (by omega), c.1]
theorem popc8 (x : Nat) : popc 8 x = popc 8 (x % 256) := by
  simp only [popc]; omega
theorem popc_add (k x : Nat) : popc (k + 8) x = popc 8 (x % 256) + popc k (x / 256) := by
  rw [← popc8]
  simp only [popc]
  rw [show x / 2 / 2 / 2 / 2 / 2 / 2 / 2 / 2 = x / 256 by omega]
  omega
theorem popT8 (x : Nat) : ∃ f0 f1 f2 f3 f4 f5 f6 f7 : Nat, (f0 ≤ 8 ∧ f1 ≤ 8 ∧ f2 ≤ 8 ∧ f3 ≤ 8 ∧ f4 ≤ 8 ∧ f5 ≤ 8 ∧ f6 ≤ 8 ∧ f7 ≤ 8) ∧ popc 64 x = f0 + f1 + f2 + f3 + f4 + f5 + f6 + f7 ∧
    popT 8 x = f0 + 256 * (f1 + 256 * (f2 + 256 * (f3 + 256 * (f4 + 256 * (f5 + 256 * (f6 + 256 * f7)))))) := by
  have st : ∀ k x, popT (k + 1) x = popc 8 (x % 256) + 256 * popT k (x / 256) := fun k x => by
    conv => lhs; rw [show x = x % 256 + 256 * (x / 256) by omega]
    exact popT_lane (by omega)
  have le : ∀ x, popc 8 (x % 256) ≤ 8 := fun x => (popAB ⟨x % 256, by omega⟩).2.2.2
  refine ⟨_, _, _, _, _, _, _, _, ⟨le x, le (x / 256), le ((x / 256) / 256), le (((x / 256) / 256) / 256), le ((((x / 256) / 256) / 256) / 256), le (((((x / 256) / 256) / 256) / 256) / 256), le ((((((x / 256) / 256) / 256) / 256) / 256) / 256), le (((((((x / 256) / 256) / 256) / 256) / 256) / 256) / 256)⟩, ?_, ?_⟩
  · have a0 := popc_add 56 x
    have a1 := popc_add 48 (x / 256)
    have a2 := popc_add 40 (x / 256 / 256)
    have a3 := popc_add 32 (x / 256 / 256 / 256)
    have a4 := popc_add 24 (x / 256 / 256 / 256 / 256)
    have a5 := popc_add 16 (x / 256 / 256 / 256 / 256 / 256)
    have a6 := popc_add 8 (x / 256 / 256 / 256 / 256 / 256 / 256)
    have a7 := popc8 (x / 256 / 256 / 256 / 256 / 256 / 256 / 256)
    rw [show 56 + 8 = 64 from rfl] at a0
    rw [show 48 + 8 = 56 from rfl] at a1
    rw [show 40 + 8 = 48 from rfl] at a2
    rw [show 32 + 8 = 40 from rfl] at a3
    rw [show 24 + 8 = 32 from rfl] at a4
    rw [show 16 + 8 = 24 from rfl] at a5
    rw [show 8 + 8 = 16 from rfl] at a6
    omega
  · rw [st, st, st, st, st, st, st, st]
    show _ + 256 * (_ + 256 * (_ + 256 * (_ + 256 * (_ + 256 * (_ + 256 * (_ + 256 * (_ + 256 * popT 0 _))))))) = _
    have : ∀ x, popT 0 x = 0 := fun x => by unfold popT popS3 rep; simp
    rw [this, Nat.mul_zero, Nat.add_zero]
theorem pop_sum (x : Nat) : ∃ y y1 y2 y3, y = popT 8 x ∧ y1 = y + y / 256 ∧ y2 = y1 + y1 / 65536 ∧ y3 = y2 + y2 / 4294967296 ∧ y3 < 9223372036854775808 ∧ y3 % 128 = popc 64 x := by
  obtain ⟨f0, f1, f2, f3, f4, f5, f6, f7, ⟨h0, h1, h2, h3, h4, h5, h6, h7⟩, hs, ht⟩ := popT8 x
  have e1 : popT 8 x / 256 = (f1) + 256 * ((f2) + 256 * ((f3) + 256 * ((f4) + 256 * ((f5) + 256 * ((f6) + 256 * ((f7))))))) := by omega
  obtain ⟨y1, hy1⟩ : ∃ y1, y1 = popT 8 x + popT 8 x / 256 := ⟨_, rfl⟩
  have e2 : y1 = (f0 + f1) + 256 * ((f1 + f2) + 256 * ((f2 + f3) + 256 * ((f3 + f4) + 256 * ((f4 + f5) + 256 * ((f5 + f6) + 256 * ((f6 + f7) + 256 * ((f7)))))))) := by rw [hy1, e1, ht]; omega
  have e3 : y1 / 65536 = (f2 + f3) + 256 * ((f3 + f4) + 256 * ((f4 + f5) + 256 * ((f5 + f6) + 256 * ((f6 + f7) + 256 * ((f7)))))) := by clear hy1 e1 ht; omega
  obtain ⟨y2, hy2⟩ : ∃ y2, y2 = y1 + y1 / 65536 := ⟨_, rfl⟩
  have e4 : y2 = (f0 + f1 + f2 + f3) + 256 * ((f1 + f2 + f3 + f4) + 256 * ((f2 + f3 + f4 + f5) + 256 * ((f3 + f4 + f5 + f6) + 256 * ((f4 + f5 + f6 + f7) + 256 * ((f5 + f6 + f7) + 256 * ((f6 + f7) + 256 * ((f7)))))))) := by rw [hy2, e3, e2]; clear hy1 e1 ht hy2 e3 e2; omega
  have e5 : y2 / 4294967296 = (f4 + f5 + f6 + f7) + 256 * ((f5 + f6 + f7) + 256 * ((f6 + f7) + 256 * ((f7)))) := by clear hy1 e1 ht hy2 e3 e2; omega
  obtain ⟨y3, hy3⟩ : ∃ y3, y3 = y2 + y2 / 4294967296 := ⟨_, rfl⟩
  have e6 : y3 = (f0 + f1 + f2 + f3 + f4 + f5 + f6 + f7) + 256 * ((f1 + f2 + f3 + f4 + f5 + f6 + f7) + 256 * ((f2 + f3 + f4 + f5 + f6 + f7) + 256 * ((f3 + f4 + f5 + f6 + f7) + 256 * ((f4 + f5 + f6 + f7) + 256 * ((f5 + f6 + f7) + 256 * ((f6 + f7) + 256 * ((f7)))))))) := by rw [hy3, e5, e4]; clear hy1 e1 ht hy2 e3 e2 hy3 e5 e4; omega
  refine ⟨_, y1, y2, y3, rfl, hy1, hy2, hy3, ?_, ?_⟩
  · clear hy1 e1 ht hy2 e3 e2 hy3 e5 e4; omega
  · clear hy1 e1 ht hy2 e3 e2 hy3 e5 e4; omega
theorem popc_le : ∀ k p, popc k p ≤ k
  | 0, _ => Nat.le_refl _
  | k + 1, p => by
    have := popc_le k (p / 2)
    show p % 2 + popc k (p / 2) ≤ k + 1
    omega
end Go.AM
end
section
/- Regions whose order is open, by an invariant on what was done: also where a call may come to many things. Conditions: as each rule says. -/
set_option linter.unusedSectionVars false
namespace Go.AM
variable {P : Program} {ng nt : Nat} [Ds nt] {c : Code} {e : Env} {h : Heap} {Q Q1 : AExit → Env → Heap → Prop}
theorem wpOp_of_ops {ops : Array Oper} {K : Act → World → Prop} {Q : Exit → Act → World → Prop} {i : Nat} {a : Act} {w : World} (h : wpOps P ops (Exit.then K Q) [i] a w) : wpOp P ops Q i K a w := by
  rw [wpOps_cons] at h
  unfold wpOp at h ⊢
  cases ho : ops[i]? with
  | none => rw [ho] at h; exact h
  | some o =>
    rw [ho] at h
    simp only at h ⊢
    split
    · rename_i hw
      rw [if_pos hw] at h
      refine h.imp (fun h => ?_) (fun h => h)
      unfold Oper.wp at h ⊢
      rw [upon_then] at h
      exact upon_mono (fun _ _ h => h) (fun _ _ _ h => h) _ h
    · rename_i hw
      rw [if_neg hw] at h
      exact h
def backOk (ops : Array Oper) : Bool := (List.range ops.size).all fun j => match ops.toList[j]? with
  | some o => o.after.toList.all fun e => !Region.binds .any e || Nat.blt e.on j
  | none => true
theorem Good.draw {id : Nat} {ops : Array Oper} (hm : P.follows .mixedOrders = true) (hok : codeOk ng nt (.region id ops true) = true) (hb : backOk ops = true) (I : (Nat → Bool) → Env → Heap → Prop) (h0 : I (fun _ => false) e h)
    (step : ∀ D e h i o, ops[i]? = some o → D i = false → (∀ ed ∈ o.after.toList, Region.binds .any ed = true → D ed.on = true) → I D e h → GoodO P ng nt ops.toList [o] e h fun ex e' h' => (ex = .normal ∧ ∀ D', (∀ k, D' k = true ↔ k = i ∨ D k = true) → I D' e' h') ∨ (ex ≠ .normal ∧ Q ex e' h'))
    (fin : ∀ D e h, (∀ j, j < ops.size → D j = true) → I D e h → Q .normal e h) : Good P ng nt (.region id ops true) e h Q := by
  intro hwf m0 w0 a0 hh0 hg0 hr0
  have hback : ∀ (j : Nat) (o : Oper), ops[j]? = some o → ∀ e ∈ o.after, Region.binds .any e = true → e.on < j := fun j o ho ed he hbd => by
    unfold backOk at hb
    rw [List.all_eq_true] at hb
    have := hb j (List.mem_range.2 (DrawCtx.lt_of_get ho))
    rw [Array.getElem?_toList, ho] at this
    simp only [List.all_eq_true] at this
    have := this ed (Array.mem_toList_iff.2 he)
    rw [hbd] at this
    simpa [Nat.blt_eq] using this
  have hok' : ∀ (k : Nat) (o : Oper), ops[k]? = some o → opersOk ng nt o = true := fun k o ho => List.all_eq_true.1 hok o (Array.mem_toList_iff.2 (Array.mem_of_getElem? ho))
  refine wp_region_any hm ?_
  have key : ∀ (fuel : Nat) (listed : Array Bool) (e : Env) (h : Heap) (m : Mp) (w : World) (a : Act), listed.size = ops.size → Down ops (DrawCtx.done listed) → listed.toList.count false ≤ fuel → I (DrawCtx.done listed) e h → HWf h → HRel m h.get w → Step m0 w0 m w → ARel m e.at a nt →
      wpAny P .any ops (Land nt m0 w0 Q) fuel listed a w := by
    intro fuel
    induction fuel with
    | zero =>
      intro listed e h m w a hsz hd hc hI hwf hh hst hr
      have hall : ∀ k, k < ops.size → DrawCtx.done listed k = true := by
        intro k hk
        cases e : DrawCtx.done listed k with
        | true => rfl
        | false =>
          exfalso
          have h0 : false ∉ listed.toList := List.count_eq_zero.1 (Nat.le_zero.1 hc)
          unfold DrawCtx.done at e
          rw [Array.getD_eq_getD_getElem?, Array.getElem?_eq_getElem (by omega)] at e
          refine h0 ?_
          rw [Array.mem_toList_iff, ← show listed[k]'(by omega) = false from e]
          exact Array.getElem_mem _
      refine ⟨?_, .normal, e, h, m, fin _ _ _ hall hI, hwf, hh, hst, hr, rfl⟩
      refine List.eq_nil_iff_forall_not_mem.2 fun i hi => ?_
      have h1 := DrawCtx.now_of_ready hsz hd hi
      have := h1.not
      rw [hall i (DrawCtx.lt_of_get h1.at_)] at this
      cases this
    | succ fuel ih =>
      intro listed e h m w a hsz hd hc hI hwf hh hst hr
      refine ⟨fun hn => ⟨.normal, e, h, m, fin _ _ _ (DrawCtx.ready_nil hsz hback hn) hI, hwf, hh, hst, hr, rfl⟩, fun i hi => ?_⟩
      have h1 := DrawCtx.now_of_ready hsz hd hi
      obtain ⟨h2, h3⟩ := DrawCtx.down_set hsz h1
      obtain ⟨o, ho⟩ : ∃ o, o = (ops[i]?.getD ⟨none, .move (.tmp 0), 0, default, #[], none⟩) := ⟨_, rfl⟩
      rw [← ho] at h1
      have hg := step (DrawCtx.done listed) e h i o h1.at_ h1.not (fun ed he hbd => h1.all ed (Array.mem_toList_iff.1 he) hbd) hI
      have := hg hwf i (fun j hj => by
        have hj : j < 1 := hj
        obtain rfl : j = 0 := by omega
        have := h1.at_
        rw [← Array.getElem?_toList] at this
        rw [Nat.add_zero, this]; rfl) (by simp only [List.all_cons, List.all_nil, Bool.and_true]; exact hok' i o h1.at_) m w a hh (hg0.mono hst.ext) hr
      rw [Array.toArray_toList] at this
      refine wpOp_of_ops (wpOps_mono ?_ _ _ _ this)
      rintro x a' w' ⟨ex, e', h', m', q, hwf', hh', hs, hr', hx⟩
      rcases q with ⟨rfl, hI'⟩ | ⟨hne, hq⟩
      · have : x = .normal := hx
        subst this
        refine ih _ e' h' m' w' a' (by simpa using hsz) h3 ?_ (hI' _ h2) hwf' hh' (hst.trans hs) hr'
        have hi' := DrawCtx.lt_of_get h1.at_
        have hget : listed.toList[i]'(by simpa using (by omega : i < listed.size)) = false := by
          have := h1.not
          unfold DrawCtx.done at this
          rw [Array.getD_eq_getD_getElem?, Array.getElem?_eq_getElem (by omega)] at this
          simpa using this
        rw [Array.toList_setIfInBounds, List.count_set (by simpa using (by omega : i < listed.size))]
        rw [hget]
        simp
        have := hc
        rw [← Array.count_toList]
        omega
      · exact then_of_not (hx.not_normal hne) ⟨ex, e', h', m', hq, hwf', hh', hst.trans hs, hr', hx⟩
  have hdone : ∀ k, DrawCtx.done (Array.replicate ops.size false) k = false := by
    intro k
    unfold DrawCtx.done
    rw [Array.getD_eq_getD_getElem?, Array.getElem?_replicate]
    split <;> rfl
  refine key ops.size _ e h m0 _ a0 (by simp) (fun j o _ hd => by rw [hdone] at hd; cases hd) ?_ ?_ hwf (hh0.drew _) .drew hr0
  · rw [Array.toList_replicate]
    exact Nat.le_trans List.count_le_length (by simp)
  · rw [show DrawCtx.done (Array.replicate ops.size false) = fun _ => false from funext hdone]; exact h0
end Go.AM
end
section
/- Maps with int keys: what is taken out; entries that are apart. Conditions: as each rule says. -/
set_option linter.unusedSectionVars false
namespace Go.AM
variable {P : Program}
abbrev Apart (l : List Ent) : Prop := l.Pairwise fun x y => x.1 ≠ y.1 ∧ x.2.1 ≠ y.2.1 ∧ x.2.2 ≠ y.2.2
theorem Apart.filter {l : List Ent} (h : Apart l) (p : Ent → Bool) : Apart (l.filter p) := List.Pairwise.filter p h
theorem Apart.two {l : List Ent} (h : Apart l) {x y : Ent} (hx : x ∈ l) (hy : y ∈ l) : x = y ∨ (x.1 ≠ y.1 ∧ x.2.1 ≠ y.2.1 ∧ x.2.2 ≠ y.2.2) := by
  induction l with
  | nil => cases hx
  | cons z l ih =>
    have h' := List.pairwise_cons.1 h
    rcases List.mem_cons.1 hx with ex | hx1
    · rcases List.mem_cons.1 hy with ey | hy1
      · exact .inl (ex.trans ey.symm)
      · rw [ex]; exact .inr (h'.1 y hy1)
    · rcases List.mem_cons.1 hy with ey | hy1
      · have := h'.1 x hx1
        rw [ey]
        exact .inr ⟨Ne.symm this.1, Ne.symm this.2.1, Ne.symm this.2.2⟩
      · exact ih h'.2 hx1 hy1
theorem Apart.key {l : List Ent} (h : Apart l) {x y : Ent} (hx : x ∈ l) (hy : y ∈ l) (he : x.1 = y.1) : x = y := (h.two hx hy).resolve_right fun q => q.1 he
theorem Apart.val {l : List Ent} (h : Apart l) {x y : Ent} (hx : x ∈ l) (hy : y ∈ l) (he : x.2.1 = y.2.1) : x = y := (h.two hx hy).resolve_right fun q => q.2.1 he
theorem Apart.born {l : List Ent} (h : Apart l) {x y : Ent} (hx : x ∈ l) (hy : y ∈ l) (he : x.2.2 = y.2.2) : x = y := (h.two hx hy).resolve_right fun q => q.2.2 he
theorem lookI_none {n : Int} : ∀ {l : List Ent}, lookI l n = none ↔ ∀ x ∈ l, x.1 ≠ n
  | [] => ⟨fun _ x hx => (by cases hx), fun _ => rfl⟩
  | y :: l => by
    have ih := lookI_none (n := n) (l := l)
    show (if n = y.1 then some y.2.1 else lookI l n) = none ↔ _
    by_cases e : n = y.1
    · rw [if_pos e]
      exact ⟨fun q => (by cases q), fun q => absurd e.symm (q y (by simp))⟩
    · rw [if_neg e, ih]
      refine ⟨fun q x hx => ?_, fun q x hx => q x (by simp [hx])⟩
      rcases List.mem_cons.1 hx with rfl | hx
      · exact Ne.symm e
      · exact q x hx
theorem lookI_some {n : Int} {v : Value} : ∀ {l : List Ent}, lookI l n = some v → ∃ x ∈ l, x.1 = n ∧ x.2.1 = v
  | [], h => by cases h
  | x :: l, h => by
    have h : (if n = x.1 then some x.2.1 else lookI l n) = some v := h
    by_cases e : n = x.1
    · rw [if_pos e] at h
      cases h
      exact ⟨x, by simp, e.symm, rfl⟩
    · rw [if_neg e] at h
      obtain ⟨y, h1, h2⟩ := lookI_some h
      exact ⟨y, by simp [h1], h2⟩
theorem Apart.look {l : List Ent} (h : Apart l) {x : Ent} (hx : x ∈ l) : lookI l x.1 = some x.2.1 := by
  cases hl : lookI l x.1 with
  | none => exact absurd rfl (lookI_none.1 hl x hx)
  | some v =>
    obtain ⟨y, hy, e1, e2⟩ := lookI_some hl
    rw [← h.key hy hx e1, e2]
theorem slS_mid_loose {b off n c l hi : Nat} {k k' : IntKind} {g : Nat → Option Blk} {X : List Value} (hb : g b = some (cellsB X (.loose 1))) (hx : off + c = X.length) (h1 : l ≤ hi) (h2 : hi ≤ c) :
    slS (some 1) (some ⟨b, off, none⟩) n c (some (.int k (l : Nat))) (some (.int k' (hi : Nat))) none g = ret (.slice (some ⟨b, off + l, none⟩) (hi - l) (c - l)) := by
  unfold slS
  rw [u_bounds, bnd_int, if_pos ⟨by omega, by omega⟩]
  simp only [Int.toNat_natCast]
  rw [bnd_int, if_pos ⟨by omega, by omega⟩]
  simp only [Int.toNat_natCast]
  rw [if_pos h2]
  simp only [u_sliceAddr, hb, sadX_loose]
  simp [hx]
end Go.AM
end
section
/- Panics in walks: rules for rewriting. No condition. -/
namespace Go.AM
variable {P : Program} {ng : Nat} {sp : Special} {Q : AExit → Env → Heap → Prop}
def RunPan (P : Program) (ng : Nat) (sp : Special) (Q : AExit → Env → Heap → Prop) (K : List Frm) (v : Value) (e : Env) (h : Heap) : Prop := ∃ t u, v = .iface t u ∧ Run P ng sp Q K (.exit (.pan (.iface t u))) e h
theorem q_panic {K : List Frm} {all r : List Oper} (d : Option Tmp) (ty : TypeId) (p : String) (af : Array Edge) (x : Operand) {e : Env} {h : Heap} : Run P ng sp Q K (.ops all (⟨d, .panic x, ty, p, af, none⟩ :: r)) e h ↔ RunPan P ng sp Q K (e.eval x) e h := by
  constructor
  · intro hr
    cases hr with
    | oskip _ h2 _ => rw [wanted_none rfl] at h2; cases h2
    | oeff _ _ h3 h4 h5 => cases h3
    | ocall _ _ h3 h4 h5 h6 h7 => cases h3
    | ocallp _ _ h3 h4 h5 h6 h7 => cases h3
    | opanic _ _ h3 h4 h5 =>
      cases h3
      exact ⟨_, _, h4, h5⟩
  · rintro ⟨t, u, h1, h2⟩
    exact .opanic (guardOk_none rfl) (wanted_none rfl) rfl h1 h2
theorem q_panicI {K : List Frm} (t : TypeId) (u : Value) {e : Env} {h : Heap} : RunPan P ng sp Q K (.iface t u) e h ↔ Run P ng sp Q K (.exit (.pan (.iface t u))) e h :=
  ⟨fun ⟨_, _, h1, h2⟩ => by cases h1; exact h2, fun h => ⟨t, u, rfl, h⟩⟩
end Go.AM
end
