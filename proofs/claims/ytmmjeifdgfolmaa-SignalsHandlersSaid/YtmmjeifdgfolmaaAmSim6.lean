/- What was done in a region whose order is open, laid out for rewriting; appends to nothing. No condition but those named. -/
import Derived.Test.YtmmjeifdgfolmaaAmLoop
namespace Go.AM
variable {P : Program}
section
variable (ρ : Operand → Value)
theorem foot_load (t : TypeId) (a : Operand) : foot (.load t a) ρ = blkOf (ρ a) := by
  show [a].flatMap (fun x => blkOf (ρ x)) = _
  simp
theorem foot_store (t : TypeId) (a x : Operand) : foot (.store t a x) ρ = blkOf (ρ a) ++ blkOf (ρ x) := by
  show [a, x].flatMap (fun x => blkOf (ρ x)) = _
  simp
theorem foot_conv (s t : TypeId) (x : Operand) : foot (.convert s t x) ρ = blkOf (ρ x) := by
  show [x].flatMap (fun x => blkOf (ρ x)) = _
  simp
theorem foot_bin (op : BinOp) (t : TypeId) (x y : Operand) (u : TypeId) : foot (.binOp op t x y u) ρ = blkOf (ρ x) ++ blkOf (ρ y) := by
  show [x, y].flatMap (fun x => blkOf (ρ x)) = _
  simp
theorem foot_slice (t : TypeId) (x : Operand) : foot (.slice t x none none none) ρ = blkOf (ρ x) := by
  show [x].flatMap (fun x => blkOf (ρ x)) = _
  simp
theorem foot_build (t : TypeId) (qs : Array (Nat × Operand)) : foot (.build t qs) ρ = [] := rfl
theorem foot_mks (t : TypeId) (a b : Operand) : foot (.makeSlice t a b) ρ = [] := rfl
theorem foot_alloc (t : TypeId) : foot (.alloc t) ρ = [] := rfl
theorem foot_box (t : TypeId) (x : Operand) : foot (.box t x) ρ = [] := rfl
theorem foot_buildSlice (t : TypeId) (n : Nat) (qs : Array (Nat × Operand)) : foot (.buildSlice t n qs) ρ = [] := rfl
theorem foot_lookup (t : TypeId) (m k : Operand) (ok : Bool) : foot (.lookup t m k ok) ρ = blkOf (ρ m) ++ blkOf (ρ k) := by
  show [m, k].flatMap (fun x => blkOf (ρ x)) = _
  simp
end
theorem blkOf_ptr (b o : Nat) (s : Option _) : blkOf (.pointer (some ⟨b, o, s⟩)) = [b] := rfl
theorem blkOf_ptrn : blkOf (.pointer none) = [] := rfl
theorem blkOf_slice (b o l c : Nat) (s : Option _) : blkOf (.slice (some ⟨b, o, s⟩) l c) = [b] := rfl
theorem blkOf_slicen (l c : Nat) : blkOf (.slice none l c) = [] := rfl
theorem blkOf_int (k : IntKind) (n : Int) : blkOf (.int k n) = [] := rfl
theorem blkOf_bool (b : Bool) : blkOf (.bool b) = [] := rfl
theorem blkOf_string (s : ByteArray) : blkOf (.string s) = [] := rfl
noncomputable def pairOk (x y : Option Did) : Bool := match x, y with
  | some x, some y => swapOk x y
  | _, _ => true
theorem didsOk_cons (p : Nat × Nat) (ps : List (Nat × Nat)) (l : List Did) : didsOk (p :: ps) l = (pairOk l[p.1]? l[p.2]? && didsOk ps l) := rfl
theorem pairOk_some (x y : Did) : pairOk (some x) (some y) = swapOk x y := rfl
theorem swap_skip (y : Did) : swapOk .skip y = true := rfl
theorem swap_skip' (x : Did) : swapOk x .skip = true := by cases x <;> rfl
theorem swap_ee (r r' : List Nat) (f f' : Eff) (n n' : Nat) : swapOk (.eff r f n) (.eff r' f' n') = (disj (f.wr.map (·.1) ++ newIds n f.nw) (r' ++ (f'.wr.map (·.1) ++ newIds n' f'.nw)) && disj r (f'.wr.map (·.1) ++ newIds n' f'.nw)) := rfl
theorem swap_ce (r : List Nat) (f : Eff) (n : Nat) (h h' : Heap) : swapOk (.call h h') (.eff r f n) = (f.wr.isEmpty && r.all fun b => sameB (h.get b) (h'.get b)) := rfl
theorem swap_ec (r : List Nat) (f : Eff) (n : Nat) (h h' : Heap) : swapOk (.eff r f n) (.call h h') = (f.wr.isEmpty && f.nw.isEmpty && r.all fun b => sameB (h.get b) (h'.get b)) := rfl
theorem sameB_self (x : Option Blk) : sameB x x = true := sameB_of rfl
theorem newIds_nil (n : Nat) : newIds n [] = [] := rfl
theorem newIds_cons (n : Nat) (b : Blk) (r : List Blk) : newIds n (b :: r) = n :: newIds (n + 1) r := rfl
theorem disj_nil (b : List Nat) : disj [] b = true := rfl
theorem disj_nil' (a : List Nat) : disj a [] = true := by unfold disj; simp
theorem disj_cons (x : Nat) (a b : List Nat) : disj (x :: a) b = (!(b.any fun y => Nat.beq x y) && disj a b) := rfl
theorem nbeq_ne {a b : Nat} (h : a ≠ b) : Nat.beq a b = false := by rw [← Bool.not_eq_true, Nat.beq_eq]; exact h

/-- an empty row of its own: a new row. -/
theorem aAppend_empty {ts : Array TypeId} {z : List Value} {s mb : Nat} (ht : appT P ts = some (z, s, mb)) {b : Nat} (n : Nat) (x : Value) (g : Nat → Option Blk) (nx : Nat) (hb : g b = some (cellsB [] .exact)) (hx : lenV x = some n) (hn : n ≠ 0) (hsz : n * mb * 4 ≤ 2 ^ 40) {new : List Value} (hnew : firstL g s n x = some new) :
    aAppend P ts (.slice (some ⟨b, 0, none⟩) 0 0) x g nx = some ⟨.slice (some ⟨nx, 0, none⟩) n n, [], [cellsB new (.loose s)]⟩ := by
  rw [aAppend_unf (appT_ok ht) _ 0 0 n x g nx hx (by simpa using hsz) hnew, if_neg (by omega), firstL_slc g s 0 b 0 0 0 [] .exact hb (by simp)]
  simp only [Nat.zero_mul, List.drop_nil, List.take_nil, hb, Nat.zero_add, List.nil_append]
  unfold cellsB maybeRoom
  rfl
theorem aAppend_empty0 {ts : Array TypeId} {z : List Value} {s mb : Nat} (ht : appT P ts = some (z, s, mb)) {b : Nat} (x : Value) (g : Nat → Option Blk) (nx : Nat) (hb : g b = some (cellsB [] .exact)) (hx : lenV x = some 0) {new : List Value} (hnew : firstL g s 0 x = some new) (hl : new = []) :
    aAppend P ts (.slice (some ⟨b, 0, none⟩) 0 0) x g nx = some ⟨.slice (some ⟨b, 0, none⟩) 0 0, [(b, cellsB [] .exact)], []⟩ := by
  subst hl
  rw [aAppend_unf (appT_ok ht) _ 0 0 0 x g nx hx (by simp) hnew, if_pos (by omega)]
  simp only [hb]
  unfold cellsB
  simp [storeL_nil]
/-- a block that the heap had, cells by cells. -/
theorem u_buildSlice0 (t : TypeId) (nx : Nat) {z : List Value} {s mb : Nat} (h : mkOf P t = some (z, s, mb)) : effBuildSlice P t 0 [] nx = some ⟨.slice (some ⟨nx, 0, none⟩) 0 0, [], [cellsB [] .exact]⟩ := by
  unfold effBuildSlice
  unfold mkOf at h
  split at h <;> try (simp at h; done)
  rename_i e he
  split at h <;> try (simp at h; done)
  rename_i i z' hi hz
  split at h <;> try (simp at h; done)
  rename_i hl
  rw [he]
  simp only [sizeOf?, hi, Option.map_some, hz]
  rw [if_neg (by omega)]
  rfl
theorem Heap.get_new_at {h : Heap} (x : Blk) {b : Nat} (hb : b ≤ h.nx ∧ h.nx ≤ b) : (h.new x).get b = some x := by rw [Nat.le_antisymm hb.1 hb.2, Heap.get_new_same]
theorem overL_cs (x : Value) (l : List Value) (n : Nat) (vs : List Value) : overL (x :: l) (n + 1) vs = x :: overL l n vs := by
  unfold overL
  rw [List.take_succ_cons, show n + 1 + vs.length = (n + vs.length) + 1 by omega, List.drop_succ_cons]
  rfl
theorem overL_cz (x : Value) (l : List Value) (v : Value) (vs : List Value) : overL (x :: l) 0 (v :: vs) = v :: overL l 0 vs := by
  unfold overL
  simp only [List.take_zero, List.nil_append, List.length_cons, Nat.zero_add]
  rw [List.drop_succ_cons]
  rfl
end Go.AM
