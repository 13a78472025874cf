/- Joined: M24, M30, M25. -/
import Derived.Test.YtekhblefchceaaaGreatMD
set_option linter.unusedVariables false
set_option linter.unusedSimpArgs false
/- An interpreter of the abstract machine: every way that a closed call can go. What it answers, the machine does. -/
namespace Go.Proofs.YtekhblefchceaaaGreat.AM
open Go
variable {P : Program} {σ : St}
def beqTok : Tok -> Tok -> Bool
  | .no, .no => true
  | .ex, .ex => true
  | .id a, .id b => Nat.beq a b
  | _, _ => false
theorem beqTok_eq {a b : Tok} (h : beqTok a b = true) : a = b := by
  cases a <;> cases b <;> simp [beqTok] at h ⊢
  exact h
def beqStr : List UInt8 -> List UInt8 -> Bool
  | [], [] => true
  | a :: x, b :: y => if a.toNat = b.toNat then beqStr x y else false
  | _, _ => false
theorem beqStr_eq : ∀ {a b : List UInt8}, beqStr a b = true -> a = b
  | [], [], _ => rfl
  | a :: x, b :: y, h => by
    simp only [beqStr] at h
    split at h
    · rename_i e
      rw [UInt8.toNat_inj.1 e, beqStr_eq h]
    · cases h
mutual
def beqV : AV -> AV -> Bool
  | .undef, .undef => true
  | .bool a, .bool b => a == b
  | .int k a, .int k' b => decide (k = k') && decide (a = b)
  | .str a, .str b => beqStr a b
  | .nilp, .nilp => true
  | .ptr a i, .ptr b j => Nat.beq a b && Nat.beq i j
  | .ip a, .ip b => beqL a b
  | .vs a s, .vs b t => beqTok s t && beqL a b
  | .bs a s, .bs b t => beqTok s t && beqStr a b
  | .hs a i l c, .hs b j m d => Nat.beq a b && Nat.beq i j && Nat.beq l m && Nat.beq c d
  | .nilmap, .nilmap => true
  | .map a, .map b => Nat.beq a b
  | .nilfn, .nilfn => true
  | .fn f a, .fn g b => Nat.beq f g && beqL a b
  | .yld a, .yld b => Nat.beq a b
  | .nilif, .nilif => true
  | .agg a, .agg b => beqL a b
  | .tup a, .tup b => beqL a b
  | _, _ => false
def beqL : List AV -> List AV -> Bool
  | [], [] => true
  | x :: a, y :: b => beqV x y && beqL a b
  | _, _ => false
end
mutual
theorem beqV_eq : ∀ {x y : AV}, beqV x y = true -> x = y
  | .undef, y, h => by cases y <;> simp [beqV] at h ⊢
  | .bool a, y, h => by cases y <;> simp [beqV] at h ⊢; exact h
  | .int k a, y, h => by cases y <;> simp [beqV] at h ⊢; exact h
  | .str a, y, h => by cases y <;> simp [beqV] at h ⊢; exact beqStr_eq h
  | .nilp, y, h => by cases y <;> simp [beqV] at h ⊢
  | .ptr a i, y, h => by cases y <;> simp [beqV] at h ⊢; exact h
  | .ip a, y, h => by cases y <;> simp [beqV] at h ⊢; exact beqL_eq h
  | .vs a s, y, h => by cases y <;> simp [beqV] at h ⊢; exact ⟨beqL_eq h.2, beqTok_eq h.1⟩
  | .bs a s, y, h => by cases y <;> simp [beqV] at h ⊢; exact ⟨beqStr_eq h.2, beqTok_eq h.1⟩
  | .hs a i l c, y, h => by cases y <;> simp [beqV] at h ⊢; exact ⟨h.1.1.1, h.1.1.2, h.1.2, h.2⟩
  | .nilmap, y, h => by cases y <;> simp [beqV] at h ⊢
  | .map a, y, h => by cases y <;> simp [beqV] at h ⊢; exact h
  | .nilfn, y, h => by cases y <;> simp [beqV] at h ⊢
  | .fn f a, y, h => by cases y <;> simp [beqV] at h ⊢; exact ⟨h.1, beqL_eq h.2⟩
  | .yld a, y, h => by cases y <;> simp [beqV] at h ⊢; exact h
  | .nilif, y, h => by cases y <;> simp [beqV] at h ⊢
  | .agg a, y, h => by cases y <;> simp [beqV] at h ⊢; exact beqL_eq h
  | .tup a, y, h => by cases y <;> simp [beqV] at h ⊢; exact beqL_eq h
theorem beqL_eq : ∀ {x y : List AV}, beqL x y = true -> x = y
  | [], y, h => by cases y <;> simp [beqL] at h ⊢
  | x :: a, y, h => by
    cases y with
    | nil => simp [beqL] at h
    | cons z b =>
      simp only [beqL, Bool.and_eq_true] at h
      rw [beqV_eq h.1, beqL_eq h.2]
end
def beqNs : List Nat -> List Nat -> Bool
  | [], [] => true
  | a :: x, b :: y => Nat.beq a b && beqNs x y
  | _, _ => false
theorem beqNs_eq : ∀ {x y : List Nat}, beqNs x y = true -> x = y
  | [], [], _ => rfl
  | a :: x, b :: y, h => by
    simp only [beqNs, Bool.and_eq_true] at h
    rw [Nat.eq_of_beq_eq_true h.1, beqNs_eq h.2]
def beqEs : List MEnt -> List MEnt -> Bool
  | [], [] => true
  | a :: x, b :: y => beqV a.key b.key && beqV a.val b.val && Nat.beq a.born b.born && beqEs x y
  | _, _ => false
theorem beqEs_eq : ∀ {x y : List MEnt}, beqEs x y = true -> x = y
  | [], [], _ => rfl
  | ⟨k, v, c⟩ :: x, ⟨k', v', c'⟩ :: y, h => by
    simp only [beqEs, Bool.and_eq_true] at h
    rw [beqV_eq h.1.1.1, beqV_eq h.1.1.2, Nat.eq_of_beq_eq_true h.1.2, beqEs_eq h.2]
def beqB : Blk -> Blk -> Bool
  | .arr a, .arr b => beqL a b
  | .tok, .tok => true
  | .map a i, .map b j => Nat.beq i j && beqEs a b
  | .iter m i s, .iter m' j t => Nat.beq m m' && Nat.beq i j && beqNs s t
  | _, _ => false
theorem beqB_eq {x y : Blk} (h : beqB x y = true) : x = y := by
  cases x <;> cases y <;> simp [beqB] at h ⊢
  · exact beqL_eq h
  · exact ⟨beqEs_eq h.2, h.1⟩
  · exact ⟨h.1.1, h.1.2, beqNs_eq h.2⟩
def beqH : List (Nat × Blk) -> List (Nat × Blk) -> Bool
  | [], [] => true
  | (i, a) :: x, (j, b) :: y => Nat.beq i j && beqB a b && beqH x y
  | _, _ => false
theorem beqH_eq : ∀ {x y : List (Nat × Blk)}, beqH x y = true -> x = y
  | [], [], _ => rfl
  | (i, a) :: x, (j, b) :: y, h => by
    simp only [beqH, Bool.and_eq_true] at h
    rw [Nat.eq_of_beq_eq_true h.1.1, beqB_eq h.1.2, beqH_eq h.2]
def beqO (p q : AV × St) : Bool := beqV p.1 q.1 && Nat.beq p.2.n q.2.n && beqH p.2.H q.2.H
theorem beqO_eq {p q : AV × St} (h : beqO p q = true) : p = q := by
  obtain ⟨v, H, n⟩ := p
  obtain ⟨v', H', n'⟩ := q
  simp only [beqO, Bool.and_eq_true] at h
  rw [beqV_eq h.1.1, Nat.eq_of_beq_eq_true h.1.2, beqH_eq h.2]
def once : List (AV × St) -> List (AV × St)
  | [] => []
  | x :: r => x :: (once r).filter fun y => !beqO x y
theorem mem_once : ∀ {l : List (AV × St)} {p : AV × St}, p ∈ l -> p ∈ once l
  | x :: r, p, h => by
    simp only [once, List.mem_cons, List.mem_filter]
    rcases List.mem_cons.1 h with e | e
    · exact .inl e
    · by_cases hb : beqO x p = true
      · exact .inl (beqO_eq hb).symm
      · exact .inr ⟨mem_once e, by simpa using hb⟩
end Go.Proofs.YtekhblefchceaaaGreat.AM

/- The operations once more, in a form that the kernel reckons quickly. -/
namespace Go.Proofs.YtekhblefchceaaaGreat.AM
open Go
variable {P : Program} {σ : St}
def wrapF (k : IntKind) (n : Int) : Int :=
  match n with
  | .ofNat m => match k with
    | .i64 => (match Nat.ble 9223372036854775808 m with | true => k.wrap n | false => n)
    | .u64 => (match Nat.ble 18446744073709551616 m with | true => k.wrap n | false => n)
    | .u8 => (match Nat.ble 256 m with | true => k.wrap n | false => n)
    | _ => k.wrap n
  | .negSucc m => match k with
    | .i64 => (match Nat.ble 9223372036854775808 m with | true => k.wrap n | false => n)
    | _ => k.wrap n
theorem ble_false {a b : Nat} (h : Nat.ble a b = false) : b < a := by
  rcases Nat.lt_or_ge b a with x | x
  · exact x
  · rw [Nat.ble_eq_true_of_le x] at h; cases h
theorem wrapF_eq (k : IntKind) (n : Int) : wrapF k n = k.wrap n := by
  cases n with
  | ofNat m =>
    cases k <;> simp only [wrapF]
    case i64 =>
      cases h : Nat.ble 9223372036854775808 m with
      | true => rfl
      | false =>
        have := ble_false h
        rw [IntKind.wrap_i64]
        show (m : Int) = _
        have e : Int.ofNat m = (m : Int) := rfl
        rw [e]; omega
    case u64 =>
      cases h : Nat.ble 18446744073709551616 m with
      | true => rfl
      | false =>
        have := ble_false h
        have e : IntKind.u64.wrap (Int.ofNat m) = Int.ofNat m % 18446744073709551616 := by simp [IntKind.wrap, IntKind.bits, IntKind.signed]
        rw [e]
        show (m : Int) = _
        have e : Int.ofNat m = (m : Int) := rfl
        rw [e]; omega
    case u8 =>
      cases h : Nat.ble 256 m with
      | true => rfl
      | false =>
        have := ble_false h
        have e : IntKind.u8.wrap (Int.ofNat m) = Int.ofNat m % 256 := by simp [IntKind.wrap, IntKind.bits, IntKind.signed]
        rw [e]
        show (m : Int) = _
        have e : Int.ofNat m = (m : Int) := rfl
        rw [e]; omega
  | negSucc m =>
    cases k <;> simp only [wrapF]
    case i64 =>
      cases h : Nat.ble 9223372036854775808 m with
      | true => rfl
      | false =>
        have := ble_false h
        rw [IntKind.wrap_i64]
        show Int.negSucc m = _
        have e : Int.negSucc m = -((m : Int) + 1) := by omega
        rw [e]; omega
def iLt : Int -> Int -> Bool
  | .ofNat a, .ofNat b => Nat.blt a b
  | .ofNat _, .negSucc _ => false
  | .negSucc _, .ofNat _ => true
  | .negSucc a, .negSucc b => Nat.blt b a
theorem iLt_eq (a b : Int) : iLt a b = decide (a < b) := by
  cases a <;> cases b <;> rw [Bool.eq_iff_iff] <;> simp [iLt, Nat.blt_eq] <;> omega
def iEq : Int -> Int -> Bool
  | .ofNat a, .ofNat b => Nat.beq a b
  | .negSucc a, .negSucc b => Nat.beq a b
  | _, _ => false
theorem iEq_eq (a b : Int) : iEq a b = decide (a = b) := by
  cases a <;> cases b <;> rw [Bool.eq_iff_iff] <;> simp [iEq, Nat.beq_eq] <;> omega
def kEq : IntKind -> IntKind -> Bool
  | .i64, .i64 => true
  | .u64, .u64 => true
  | .u8, .u8 => true
  | k, k' => decide (k = k')
theorem kEq_eq (k k' : IntKind) : kEq k k' = decide (k = k') := by cases k <;> cases k' <;> rfl
def nth : List AV -> Nat -> Option AV
  | [], _ => none
  | x :: _, 0 => some x
  | _ :: l, i + 1 => nth l i
theorem nth_eq : ∀ (l : List AV) (i : Nat), nth l i = l[i]?
  | [], _ => by simp [nth]
  | x :: l, 0 => by simp [nth]
  | x :: l, i + 1 => by simp [nth, nth_eq l i]
def eArith (f : Int -> Int -> Int) : AV -> AV -> St -> OR
  | .int k a, .int k' b, σ => (match kEq k k' with | true => .v (.int k (wrapF k (f a b))) σ | false => .bad)
  | _, _, _ => .bad
def eCmp (f : Int -> Int -> Bool) (op : BinOp) : AV -> AV -> St -> OR
  | .int k a, .int k' b, σ => (match kEq k k' with | true => .v (.bool (f a b)) σ | false => .bad)
  | x, y, σ => match binA op x y with | some v => .v v σ | none => .bad
def eAdd : AV -> AV -> St -> OR
  | .int k a, .int k' b, σ => (match kEq k k' with | true => .v (.int k (wrapF k (Int.add a b))) σ | false => .bad)
  | x, y, σ => match binA .add x y with | some v => .v v σ | none => .bad
def eBin (op : BinOp) (x y : AV) (σ : St) : OR :=
  match op with
  | .add => eAdd x y σ
  | .sub => eArith Int.sub x y σ
  | .eql => eCmp iEq .eql x y σ
  | .neq => eCmp (fun a b => !iEq a b) .neq x y σ
  | .lss => eCmp iLt .lss x y σ
  | .leq => eCmp (fun a b => !iLt b a) .leq x y σ
  | .gtr => eCmp (fun a b => iLt b a) .gtr x y σ
  | .geq => eCmp (fun a b => !iLt a b) .geq x y σ
  | op => match binA op x y with | some v => .v v σ | none => .bad
theorem eCmp_eq {f : Int -> Int -> Bool} {op : BinOp} (h : ∀ k a b, binA op (.int k a) (.int k b) = some (.bool (f a b))) (hn : ∀ k k' a b, k ≠ k' -> binA op (.int k a) (.int k' b) = none) (x y : AV) : eCmp f op x y σ = (match binA op x y with | some v => .v v σ | none => .bad) := by
  cases x <;> cases y <;> first | rfl | skip
  rename_i k a k' b
  simp only [eCmp, kEq_eq]
  by_cases e : k = k'
  · subst e; rw [h]; simp
  · rw [hn _ _ _ _ e]; simp [e]
theorem eBin_eq (op : BinOp) (x y : AV) : eBin op x y σ = (match binA op x y with | some v => .v v σ | none => .bad) := by
  cases op <;> simp only [eBin]
  case add =>
    cases x <;> cases y <;> first | rfl | skip
    rename_i k a k' b
    simp only [eAdd, kEq_eq, wrapF_eq]
    by_cases e : k = k'
    · subst e; simp [binA, intOp]; try rfl
    · simp [binA, e]
  case sub =>
    cases x <;> cases y <;> first | rfl | skip
    rename_i k a k' b
    simp only [eArith, kEq_eq, wrapF_eq]
    by_cases e : k = k'
    · subst e; simp [binA, intOp]; try rfl
    · simp [binA, e]
  all_goals
    refine eCmp_eq (fun k a b => ?_) (fun k k' a b h => by simp [binA, h]) x y
    simp only [iEq_eq, iLt_eq]
    simp [binA, intOp]
    try (rw [<- decide_not]; congr 1; simp; done)
noncomputable def vget (l : List AV) : Nat -> AV :=
  List.rec (motive := fun _ => Nat -> AV) (fun _ => .tup []) (fun x _ ih i => Nat.rec (motive := fun _ => AV) x (fun k _ => ih k) i) l
noncomputable def vset (i : Nat) : List AV -> AV -> List AV :=
  Nat.rec (motive := fun _ => List AV -> AV -> List AV) (fun l v => List.rec (motive := fun _ => List AV) [v] (fun _ t _ => v :: t) l)
    (fun _ ih l v => List.rec (motive := fun _ => List AV) (.tup [] :: ih [] v) (fun x t _ => x :: ih t v) l) i
theorem vget_nil (i : Nat) : vget [] i = .tup [] := rfl
theorem vget_zero (x : AV) (l : List AV) : vget (x :: l) 0 = x := rfl
theorem vget_succ (x : AV) (l : List AV) (i : Nat) : vget (x :: l) (i + 1) = vget l i := rfl
theorem vset_zn (v : AV) : vset 0 [] v = [v] := rfl
theorem vset_zc (x : AV) (l : List AV) (v : AV) : vset 0 (x :: l) v = v :: l := rfl
theorem vset_sn (i : Nat) (v : AV) : vset (i + 1) [] v = .tup [] :: vset i [] v := rfl
theorem vset_sc (i : Nat) (x : AV) (l : List AV) (v : AV) : vset (i + 1) (x :: l) v = x :: vset i l v := rfl
noncomputable def vput (l : List AV) (d : Option Nat) (v : AV) : List AV := match d with | some i => vset i l v | none => l
theorem vget_set : ∀ (i : Nat) (l : List AV) (v : AV) (j : Nat), vget (vset i l v) j = if j = i then v else vget l j
  | 0, [], v, 0 => rfl
  | 0, [], v, j + 1 => by simp [vset_zn, vget_nil, vget_succ]
  | 0, x :: l, v, 0 => rfl
  | 0, x :: l, v, j + 1 => by simp [vset_zc, vget_succ]
  | i + 1, [], v, 0 => by simp [vset_sn, vget_zero, vget_nil]
  | i + 1, [], v, j + 1 => by simp only [vset_sn, vget_succ, vget_nil, vget_set i [] v j, Nat.add_right_cancel_iff]
  | i + 1, x :: l, v, 0 => by simp [vset_sc, vget_zero]
  | i + 1, x :: l, v, j + 1 => by simp only [vset_sc, vget_succ, vget_set i l v j, Nat.add_right_cancel_iff]
theorem vput_eq (l : List AV) (d : Option Nat) (v : AV) : vget (vput l d v) = Env.putO (vget l) d v := by
  cases d with
  | none => rfl
  | some i => funext j; simp only [vput, vget_set, Env.putO, Env.put]
theorem vget_args (l : List AV) : vget l = envOf l := by
  funext i
  simp only [envOf]
  induction l generalizing i with
  | nil => simp [vget_nil]
  | cons x l ih => cases i <;> simp [vget_zero, vget_succ, ih]
noncomputable def ov (l : List AV) : Opd -> AV
  | .t i => vget l i
  | .c v => v
theorem ov_eq (l : List AV) (x : Opd) : ov l x = x.ev (vget l) := by cases x <;> rfl
noncomputable def ovs (l : List AV) : List Opd -> List AV
  | [] => []
  | x :: r => ov l x :: ovs l r
theorem ovs_eq (l : List AV) : ∀ xs : List Opd, ovs l xs = xs.map (·.ev (vget l))
  | [] => rfl
  | x :: r => by simp only [ovs, ovs_eq l r, ov_eq, List.map_cons]
def lkF : List (Nat × Blk) -> Nat -> Option Blk
  | [], _ => none
  | (a, b) :: r, x => match Nat.beq a x with | true => some b | false => lkF r x
theorem lkF_eq : ∀ (H : List (Nat × Blk)) (x : Nat), lkF H x = lk H x
  | [], x => rfl
  | (a, b) :: r, x => by
    simp only [lkF, lk, lkF_eq r x]
    cases h : Nat.beq a x with
    | true => rw [if_pos (Nat.eq_of_beq_eq_true h)]
    | false => rw [if_neg (Nat.ne_of_beq_eq_false h)]
def natF : AV -> Option Nat
  | .int _ (.ofNat n) => some n
  | _ => none
theorem natF_eq (v : AV) : natF v = natOf v := by
  cases v <;> try rfl
  rename_i k n
  cases n with
  | ofNat n => simp [natF, natOf]
  | negSucc n => simp [natF, natOf]
def nthS : List UInt8 -> Nat -> Option UInt8
  | [], _ => none
  | x :: _, 0 => some x
  | _ :: l, i + 1 => nthS l i
theorem nthS_eq : ∀ (l : List UInt8) (i : Nat), nthS l i = l[i]?
  | [], _ => by simp [nthS]
  | x :: l, 0 => by simp [nthS]
  | x :: l, i + 1 => by simp [nthS, nthS_eq l i]
theorem ble_dec {a b : Nat} {α : Type} (x y : α) : (match Nat.ble a b with | true => x | false => y) = if a <= b then x else y := by
  cases h : Nat.ble a b with
  | true => rw [if_pos (Nat.le_of_ble_eq_true h)]
  | false => rw [if_neg (by have := ble_false h; omega)]
noncomputable def h_mv (l : List AV) (σ : St) (x : Opd) : OR :=
  .v (ov l x) σ
noncomputable def h_pick (l : List AV) (σ : St) (c : Opd) (a : Opd) (b : Opd) : OR :=
  match ov l c with | .bool true => .v (ov l a) σ | .bool false => .v (ov l b) σ | _ => .bad
noncomputable def h_allocT (l : List AV) (σ : St) (t : Nat) (z : List AV) : OR :=
  .v (.ptr σ.n 0) (σ.new (.typ t z))
noncomputable def h_alloc (l : List AV) (σ : St) (z : List AV) : OR :=
  let ρ := vget l
  .v (.ptr σ.n 0) (σ.new (.arr z))
noncomputable def h_box (l : List AV) (σ : St) (sz : Nat) (x : Opd) : OR :=
  let ρ := vget l
  let cs := (x.ev ρ).cells; if cs.length = sz /\ allSc cs = true then .v (.ptr σ.n 0) (σ.new (.arr cs)) else .bad
noncomputable def h_build (l : List AV) (σ : St) (z : List AV) (ps : List (Nat × Nat × Opd)) : OR :=
  let ρ := vget l
  match buildA ρ z ps with | some cs => .v (.agg cs) σ | none => .bad
noncomputable def h_lit (l : List AV) (σ : St) (sz : Nat) (xs : List Opd) : OR :=
  let ρ := vget l
  let l := xs.map (·.ev ρ); if fitSz sz l then .v (.vs l .ex) σ else .bad
noncomputable def h_load (l : List AV) (σ : St) (ag : Bool) (sz : Nat) (a : Opd) : OR :=
  match ov l a with
    | .ptr β off =>
      match lkF σ.H β with
      | some (.arr c) =>
        match ag with
        | true => (match Nat.ble (Nat.add off sz) c.length with | true => .v (.agg ((c.drop off).take sz)) σ | false => .bad)
        | false => match nth c off with | some v => .v v σ | none => .bad
      | some (.typ _ c) =>
        match ag with
        | true => (match Nat.ble (Nat.add off sz) c.length with | true => .v (.agg ((c.drop off).take sz)) σ | false => .bad)
        | false => match nth c off with | some v => .v v σ | none => .bad
      | _ => .bad
    | .ip m =>
      match ag with
      | true => (match Nat.ble sz m.length with | true => .v (.agg (m.take sz)) σ | false => .bad)
      | false => match m with | v :: _ => .v v σ | [] => .bad
    | _ => .bad
noncomputable def h_store (l : List AV) (σ : St) (sz : Nat) (a : Opd) (v : Opd) : OR :=
  let ρ := vget l
 
    match a.ev ρ with
    | .ptr β off =>
      match lk σ.H β with
      | some (.arr c) =>
        let cs := (v.ev ρ).cells
        if cs.length = sz /\ allSc cs = true /\ off + sz <= c.length then .v (.tup []) (σ.set β (.arr (putCells c off cs))) else .bad
      | some (.typ t c) =>
        let cs := (v.ev ρ).cells
        if cs.length = sz /\ allSc cs = true /\ off + sz <= c.length /\ (noVs cs || v.isNil) = true then .v (.tup []) (σ.set β (.typ t (putCells c off cs))) else .bad
      | _ => .bad
    | _ => .bad
noncomputable def h_nilc (l : List AV) (σ : St) (x : Opd) : OR :=
  match ov l x with | .ptr β o => .v (.ptr β o) σ | .ip l => .v (.ip l) σ | _ => .bad
noncomputable def h_bin (l : List AV) (σ : St) (op : BinOp) (x : Opd) (y : Opd) : OR :=
  eBin op (ov l x) (ov l y) σ
noncomputable def h_eqv (l : List AV) (σ : St) (kd : EK) (neg : Bool) (x : Opd) (y : Opd) : OR :=
  let ρ := vget l
  match eqK kd (x.ev ρ) (y.ev ρ) with | some t => .v (.bool (t != neg)) σ | none => .bad
noncomputable def h_eqagg (l : List AV) (σ : St) (neg : Bool) (ks : List CK) (x : Opd) (y : Opd) : OR :=
  let ρ := vget l
 
    match x.ev ρ, y.ev ρ with
    | .agg a, .agg b => if a.length = ks.length /\ b.length = ks.length then (match eqList ks a b with | some t => .v (.bool (t != neg)) σ | none => .bad) else .bad
    | _, _ => .bad
noncomputable def h_eqnil (l : List AV) (σ : St) (neg : Bool) (x : Opd) : OR :=
  let ρ := vget l
 
    match x.ev ρ with
    | .vs [] _ => .any [(.bool true, σ), (.bool false, σ)]
    | .vs (_ :: _) _ => .v (.bool neg) σ
    | .hs _ _ _ _ => .v (.bool neg) σ
    | _ => .bad
noncomputable def h_not (l : List AV) (σ : St) (x : Opd) : OR :=
  match ov l x with | .bool true => .v (.bool false) σ | .bool false => .v (.bool true) σ | _ => .bad
noncomputable def h_conv (l : List AV) (σ : St) (k : IntKind) (x : Opd) : OR :=
  let ρ := vget l
  match x.ev ρ with | .int _ n => .v (.int k (k.wrap n)) σ | _ => .bad
noncomputable def h_b2s (l : List AV) (σ : St) (x : Opd) : OR :=
  let ρ := vget l
  match x.ev ρ with | .bs s _ => .v (.str s) σ | .vs [] _ => .v (.str []) σ | _ => .bad
noncomputable def h_mkfn (l : List AV) (σ : St) (f : Nat) (cap : List Opd) : OR :=
  let ρ := vget l
  .v (.fn f (cap.map (·.ev ρ))) σ
noncomputable def h_mkmap (l : List AV) (σ : St)  : OR :=
  let ρ := vget l
  .v (.map σ.n) (σ.new (.map [] 0))
noncomputable def h_mksl (l : List AV) (σ : St) (z : List AV) (bytes : Nat) (len : Opd) (cap : Opd) : OR :=
  let ρ := vget l
 
    match natOf (len.ev ρ), natOf (cap.ev ρ) with
    | some l, some c =>
      if l <= c /\ c * (bytes + 1) <= maxBytes then .v (.hs σ.n 0 l c) (σ.new (.arr (List.replicate c z).flatten)) else .bad
    | _, _ => .bad
noncomputable def h_slice (l : List AV) (σ : St) (sz : Nat) (x : Opd) (lo : Option Opd) (hi : Option Opd) (mx : Option Opd) : OR :=
  let ρ := vget l
 
    match x.ev ρ with
    | .vs l t =>
      match optNat ρ 0 lo, optNat ρ l.length hi, optNat ρ l.length mx with
      | some lo, some hi, some m =>
        if lo <= hi /\ hi <= m /\ m <= l.length /\ fitSz sz l = true then
          .v (.vs ((l.take hi).drop lo) (if mx.isSome then (if m = hi then .ex else .no) else if hi = l.length then (if lo < hi then t else if t = .ex then .ex else .no) else .no)) σ
        else .bad
      | _, _, _ => .bad
    | .hs β off len cap =>
      if mx.isSome then .bad else
      match optNat ρ 0 lo, optNat ρ len hi with
      | some lo, some hi => if lo <= hi /\ hi <= cap /\ hi <= len /\ lo < cap then .v (.hs β (off + lo * sz) (hi - lo) (cap - lo)) σ else .bad
      | _, _ => .bad
    | _ => .bad
noncomputable def h_sslice (l : List AV) (σ : St) (x : Opd) (lo : Option Opd) (hi : Option Opd) : OR :=
  let ρ := vget l
 
    match x.ev ρ with
    | .str s =>
      match optNat ρ 0 lo, optNat ρ s.length hi with
      | some lo, some hi => if lo <= hi /\ hi <= s.length then .v (.str ((s.take hi).drop lo)) σ else .bad
      | _, _ => .bad
    | _ => .bad
noncomputable def h_fld (l : List AV) (σ : St) (off : Nat) (x : Opd) : OR :=
  match ov l x with | .ptr β o => .v (.ptr β (Nat.add o off)) σ | .ip m => .v (.ip (m.drop off)) σ | _ => .bad
noncomputable def h_field (l : List AV) (σ : St) (ag : Bool) (off : Nat) (sz : Nat) (x : Opd) : OR :=
  let ρ := vget l
 
    match x.ev ρ with
    | .agg l => if ag then (if off + sz <= l.length then .v (.agg ((l.drop off).take sz)) σ else .bad)
      else match l[off]? with | some v => .v v σ | none => .bad
    | _ => .bad
noncomputable def h_idxA (l : List AV) (σ : St) (sz : Nat) (x : Opd) (i : Opd) : OR :=
  let ρ := vget l
 
    match natOf (i.ev ρ) with
    | some i =>
      match x.ev ρ with
      | .vs l _ => match l[i]? with | some e => if e.cells.length = sz then .v (.ip e.cells) σ else .bad | none => .bad
      | .hs β off len _ => if i < len then .v (.ptr β (off + i * sz)) σ else .bad
      | _ => .bad
    | none => .bad
noncomputable def h_idxP (l : List AV) (σ : St) (sz : Nat) (len : Nat) (x : Opd) (i : Opd) : OR :=
  let ρ := vget l
 
    match natOf (i.ev ρ), x.ev ρ with
    | some i, .ptr β o => if i < len then .v (.ptr β (o + i * sz)) σ else .bad
    | _, _ => .bad
noncomputable def h_idx (l : List AV) (σ : St) (ag : Bool) (sz : Nat) (len : Nat) (x : Opd) (i : Opd) : OR :=
  let ρ := vget l
 
    match natOf (i.ev ρ), x.ev ρ with
    | some i, .agg l =>
      if i < len then
        if ag then (if i * sz + sz <= l.length then .v (.agg ((l.drop (i * sz)).take sz)) σ else .bad)
        else match l[i * sz]? with | some v => .v v σ | none => .bad
      else .bad
    | _, _ => .bad
noncomputable def h_idxS (l : List AV) (σ : St) (x : Opd) (i : Opd) : OR :=
  match natF (ov l i), ov l x with
    | some i, .str s => match nthS s i with | some b => .v (.int .u8 (Int.ofNat b.toNat)) σ | none => .bad
    | _, _ => .bad
noncomputable def h_lookup (l : List AV) (σ : St) (ck : CK) (z : AV) (x : Opd) (i : Opd) (ok : Bool) : OR :=
  let ρ := vget l
 
    let done (r : Option (Option (Nat × AV))) : OR := match r with
      | some (some (_, v)) => .v (if ok then .tup [v, .bool true] else v) σ
      | some none => .v (if ok then .tup [z, .bool false] else z) σ
      | none => .bad
    if isKey (i.ev ρ) then
      match x.ev ρ with
      | .nilmap => done (some none)
      | .map β => match lk σ.H β with
        | some (.map es _) => done (findKeyA ck (i.ev ρ) es 0)
        | _ => .bad
      | _ => .bad
    else .bad
noncomputable def h_mapup (l : List AV) (σ : St) (kk : CK) (m : Opd) (k : Opd) (v : Opd) : OR :=
  let ρ := vget l
 
    if isKey (k.ev ρ) then
      match m.ev ρ with
      | .map β => match lk σ.H β with
        | some (.map es ck) =>
          match findKeyA kk (k.ev ρ) es 0 with
          | some (some (i, _)) => .v (.tup []) (σ.set β (.map (es.modify i fun e => { e with key := k.ev ρ, val := v.ev ρ }) ck))
          | some none => .v (.tup []) (σ.set β (.map (es ++ [⟨k.ev ρ, v.ev ρ, ck⟩]) (ck + 1)))
          | none => .bad
        | _ => .bad
      | _ => .bad
    else .bad
noncomputable def h_del (l : List AV) (σ : St) (kk : CK) (m : Opd) (k : Opd) : OR :=
  let ρ := vget l
 
    if isKey (k.ev ρ) then
      match m.ev ρ with
      | .map β => match lk σ.H β with
        | some (.map es ck) =>
          match findKeyA kk (k.ev ρ) es 0 with
          | some (some (i, _)) => .v (.tup []) (σ.set β (.map (es.eraseIdx i) ck))
          | some none => .v (.tup []) σ
          | none => .bad
        | _ => .bad
      | _ => .bad
    else .bad
noncomputable def h_range (l : List AV) (σ : St) (m : Opd) : OR :=
  let ρ := vget l
 
    match m.ev ρ with
    | .map β => match lk σ.H β with
      | some (.map _ ck) => .v (.ptr σ.n 0) (σ.new (.iter β ck []))
      | _ => .bad
    | _ => .bad
noncomputable def h_next (l : List AV) (σ : St) (it : Opd) : OR :=
  let ρ := vget l
 
    match it.ev ρ with
    | .ptr r 0 =>
      match lk σ.H r with
      | some (.iter m ck seen) =>
        match lk σ.H m with
        | some (.map es ck') =>
          if ck' = ck then
            match es.filter (fun e => !seen.contains e.born) with
            | [] => .v (.tup [.bool false]) σ
            | left => .any (left.map fun e => (.tup [.bool true, e.key, e.val], σ.set r (.iter m ck (seen ++ [e.born]))))
          else .bad
        | _ => .bad
      | _ => .bad
    | _ => .bad
noncomputable def h_entry (l : List AV) (σ : St) (it : Opd) : OR :=
  let ρ := vget l
 
    match it.ev ρ with
    | .ptr r 0 =>
      match lk σ.H r with
      | some (.iter m ck seen) =>
        match lk σ.H m, seen.getLast? with
        | some (.map es ck'), some s =>
          if ck' = ck then
            match es.find? (fun e => e.born == s) with
            | some e => .v (.tup [e.key, e.val]) σ
            | none => .bad
          else .bad
        | _, _ => .bad
      | _ => .bad
    | _ => .bad
noncomputable def h_ext (l : List AV) (σ : St) (x : Opd) (i : Nat) : OR :=
  match ov l x with | .tup m => (match nth m i with | some v => .v v σ | none => .bad) | _ => .bad
noncomputable def h_call (l : List AV) (σ : St) (f : Nat) (args : List Opd) : OR :=
  .call f (ovs l args)
noncomputable def h_callv (l : List AV) (σ : St) (x : Opd) (args : List Opd) : OR :=
  match ov l x with | .fn f cap => .call f (ovs l args ++ cap) | .yld β => .yld β (ovs l args) | _ => .bad
noncomputable def h_app (l : List AV) (σ : St) (ag : Bool) (sz : Nat) (bytes : Nat) (s : Opd) (x : Opd) : OR :=
  let ρ := vget l
 
    match readAll σ ag sz (x.ev ρ), s.ev ρ with
    | some new, .vs l t =>
      if new = [] then .v (.vs l t) σ
      else if fitSz sz l && fitSz sz new && decide ((l.length + new.length) * (bytes + 1) <= maxBytes) then
        match σ.retok t with
        | some σ' => .v (.vs (l ++ new) (.id σ.n)) σ'
        | none => .bad
      else .bad
    | some new, .hs β off len cap =>
      match lk σ.H β with
      | some (.arr c) =>
        if len + new.length <= cap /\ off + (len + new.length) * sz <= c.length /\ fitSz sz new = true then
          .v (.hs β off (len + new.length) cap) (σ.set β (.arr (putCells c (off + len * sz) (new.flatMap AV.cells))))
        else .bad
      | _ => .bad
    | _, _ => .bad
noncomputable def h_appb (l : List AV) (σ : St) (s : Opd) (x : Opd) : OR :=
  let ρ := vget l
 
    let fin (l : List UInt8) (t : Tok) (x : List UInt8) : OR :=
      if l.length + x.length <= maxBytes / 4 then
        match σ.retok t with
        | some σ' => .v (.bs (l ++ x) (.id σ.n)) σ'
        | none => .bad
      else .bad
    match s.ev ρ, x.ev ρ with
    | .bs l t, .str x => if x = [] then .v (.bs l t) σ else fin l t x
    | .vs [] t, .str x => if x = [] then .v (.vs [] t) σ else fin [] t x
    | _, _ => .bad
noncomputable def h_len (l : List AV) (σ : St) (k : LK) (x : Opd) : OR :=
  let ρ := vget l
 
    match k, x.ev ρ with
    | .l, .vs l _ => .v (.int .i64 l.length) σ
    | .l, .bs l _ => .v (.int .i64 l.length) σ
    | .s, .str l => .v (.int .i64 l.length) σ
    | .l, .hs _ _ len _ => .v (.int .i64 len) σ
    | .m, .nilmap => .v (.int .i64 0) σ
    | .m, .map β => match lk σ.H β with
      | some (.map es _) => .v (.int .i64 es.length) σ
      | _ => .bad
    | _, _ => .bad
noncomputable def h_copy (l : List AV) (σ : St) (sz : Nat) (d : Opd) (s : Opd) : OR :=
  let ρ := vget l
 
    match d.ev ρ with
    | .hs β off len _ =>
      match lk σ.H β, readAll σ true sz (s.ev ρ) with
      | some (.arr c), some l =>
        if l.length <= len /\ off + len * sz <= c.length then
          .v (.int .i64 l.length) (σ.set β (.arr (putCells c off (l.flatMap AV.cells))))
        else .bad
      | _, _ => .bad
    | _ => .bad
noncomputable def h_min (l : List AV) (σ : St) (x : Opd) (y : Opd) : OR :=
  let ρ := vget l
  match x.ev ρ, y.ev ρ with | .int k a, .int k' b => if k = k' then .v (.int k (if b < a then b else a)) σ else .bad | _, _ => .bad
noncomputable def h_bad (l : List AV) (σ : St)  : OR :=
  let ρ := vget l
  .bad
noncomputable def ev2 (l : List AV) (σ : St) (o : AOp) : OR :=
  match o with
  | .mv x => h_mv l σ x
  | .pick c a b => h_pick l σ c a b
  | .alloc z => h_alloc l σ z
  | .allocT t z => h_allocT l σ t z
  | .box sz x => h_box l σ sz x
  | .build z ps => h_build l σ z ps
  | .lit sz xs => h_lit l σ sz xs
  | .load ag sz a => h_load l σ ag sz a
  | .store sz a v => h_store l σ sz a v
  | .nilc x => h_nilc l σ x
  | .bin op x y => h_bin l σ op x y
  | .eqv kd neg x y => h_eqv l σ kd neg x y
  | .eqagg neg ks x y => h_eqagg l σ neg ks x y
  | .eqnil neg x => h_eqnil l σ neg x
  | .not x => h_not l σ x
  | .conv k x => h_conv l σ k x
  | .b2s x => h_b2s l σ x
  | .mkfn f cap => h_mkfn l σ f cap
  | .mkmap  => h_mkmap l σ 
  | .mksl z bytes len cap => h_mksl l σ z bytes len cap
  | .slice sz x lo hi mx => h_slice l σ sz x lo hi mx
  | .sslice x lo hi => h_sslice l σ x lo hi
  | .fld off x => h_fld l σ off x
  | .field ag off sz x => h_field l σ ag off sz x
  | .idxA sz x i => h_idxA l σ sz x i
  | .idxP sz len x i => h_idxP l σ sz len x i
  | .idx ag sz len x i => h_idx l σ ag sz len x i
  | .idxS x i => h_idxS l σ x i
  | .lookup ck z x i ok => h_lookup l σ ck z x i ok
  | .mapup kk m k v => h_mapup l σ kk m k v
  | .del kk m k => h_del l σ kk m k
  | .range m => h_range l σ m
  | .next it => h_next l σ it
  | .entry it => h_entry l σ it
  | .ext x i => h_ext l σ x i
  | .call f args => h_call l σ f args
  | .callv x args => h_callv l σ x args
  | .app ag sz bytes s x => h_app l σ ag sz bytes s x
  | .appb s x => h_appb l σ s x
  | .len k x => h_len l σ k x
  | .copy sz d s => h_copy l σ sz d s
  | .min x y => h_min l σ x y
  | .bad  => h_bad l σ 
theorem ev2_eq (l : List AV) (σ : St) (o : AOp) : ev2 l σ o = evalOp (vget l) σ o := by
  cases o
  case bin op x y =>
    simp only [ev2, h_bin, ov_eq, eBin_eq, evalOp]
    cases binA op (x.ev (vget l)) (y.ev (vget l)) <;> rfl
  case load ag sz a =>
    simp only [ev2, h_load, ov_eq, evalOp, lkF_eq, nth_eq]
    generalize a.ev (vget l) = v
    cases v <;> try rfl
    case ptr β off =>
      dsimp only
      generalize lk σ.H β = b
      rcases b with _ | b
      · rfl
      cases b <;> try rfl
      all_goals
        dsimp only
        cases ag
        · rfl
        · exact ble_dec _ _
    case ip m =>
      dsimp only
      cases ag
      · rfl
      · exact ble_dec _ _
  case pick c a b =>
    simp only [ev2, h_pick, ov_eq, evalOp]
    generalize c.ev (vget l) = v
    cases v <;> try rfl
    rename_i t; cases t <;> rfl
  case not x =>
    simp only [ev2, h_not, ov_eq, evalOp]
    generalize x.ev (vget l) = v
    cases v <;> try rfl
    rename_i t; cases t <;> rfl
  case call f args => simp only [ev2, h_call, ovs_eq, evalOp]
  case callv x args =>
    simp only [ev2, h_callv, ov_eq, ovs_eq, evalOp]
    cases x.ev (vget l) <;> rfl
  case idxS x i =>
    simp only [ev2, h_idxS, ov_eq, natF_eq, nthS_eq, evalOp]
    cases natOf (i.ev (vget l)) <;> cases x.ev (vget l) <;> rfl
  case ext x i =>
    simp only [ev2, h_ext, ov_eq, nth_eq, evalOp]
    cases x.ev (vget l) <;> rfl
  case mv x => simp only [ev2, h_mv, ov_eq, evalOp]
  case nilc x =>
    simp only [ev2, h_nilc, ov_eq, evalOp]
    cases x.ev (vget l) <;> rfl
  case fld off x =>
    simp only [ev2, h_fld, ov_eq, evalOp]
    cases x.ev (vget l) <;> rfl
  all_goals rfl
end Go.Proofs.YtekhblefchceaaaGreat.AM

/- An interpreter of the abstract machine, its rules. What it answers, the machine does. -/
namespace Go.Proofs.YtekhblefchceaaaGreat.AM
open Go
variable {P : Program} {σ : St}
def coll {α β : Type} (f : α -> Option (List β)) : List α -> Option (List β)
  | [] => some []
  | x :: r => match r with
    | [] => f x
    | _ :: _ => match f x with
      | none => none
      | some a => match coll f r with
        | none => none
        | some b => some (a ++ b)
theorem coll_mem {α β : Type} {f : α -> Option (List β)} : ∀ {l : List α} {m : List β}, coll f l = some m -> ∀ x, x ∈ l -> ∃ a, f x = some a /\ ∀ y, y ∈ a -> y ∈ m
  | [], m, h, x, hx => by simp at hx
  | [z], m, h, x, hx => by
    simp only [coll] at h
    rw [List.mem_singleton.1 hx]
    exact ⟨m, h, fun _ hy => hy⟩
  | z :: z' :: r, m, h, x, hx => by
    simp only [coll] at h
    split at h
    · cases h
    · rename_i a ha
      split at h
      · cases h
      · rename_i b hb
        simp only [Option.some.injEq] at h
        subst h
        rcases List.mem_cons.1 hx with rfl | hx
        · exact ⟨a, ha, fun y hy => by simp [hy]⟩
        · obtain ⟨c, hc, h2⟩ := coll_mem (l := z' :: r) (by simp only [coll]; exact hb) x hx
          exact ⟨c, hc, fun y hy => by simp [h2 y hy]⟩
inductive Tgt where
  | f (n : Nat)
  | y (β : Nat)
abbrev CallF := Tgt -> List AV -> St -> Option (List (AV × St))
noncomputable def doOne (call : CallF) (i : AInstr) (l : List AV) (σ : St) : Option (List (List AV × St)) :=
  match wanted (vget l) i.guard with
  | some true =>
    match ev2 l σ i.op with
    | .v v σ' => some [(vput l i.dst v, σ')]
    | .any xs => match xs with
      | [] => none
      | x :: r => some ((x :: r).map fun p => (vput l i.dst p.1, p.2))
    | .call f args => match call (.f f) args σ with
      | none => none
      | some xs => some (xs.map fun p => (vput l i.dst p.1, p.2))
    | .yld β args => match call (.y β) args σ with
      | none => none
      | some xs => some (xs.map fun p => (vput l i.dst p.1, p.2))
    | .bad => none
  | some false => some [(vput l i.dst (.tup []), σ)]
  | none => none
noncomputable def doAll (call : CallF) : List AInstr -> List AV -> St -> Option (List (List AV × St))
  | [], l, σ => some [(l, σ)]
  | i :: r, l, σ => match doOne call i l σ with
    | none => none
    | some xs => coll (fun p => doAll call r p.1 p.2) xs
def CS (P : Program) (call : CallF) : Prop := ∀ t args σ xs, call t args σ = some xs -> match t with
  | .f n => ACalls P n args σ (fun v σ' => (v, σ') ∈ xs)
  | .y β => AYields P β args σ (fun v σ' => (v, σ') ∈ xs)
theorem doOne_sound {call : CallF} (hc : CS P call) {i : AInstr} {l : List AV} {xs : List (List AV × St)} (h : doOne call i l σ = some xs) {K : Env -> St -> Prop} (hk : ∀ p, p ∈ xs -> K (vget p.1) p.2) : AO P i K (vget l) σ := by
  unfold doOne at h
  rw [ev2_eq] at h
  unfold AO
  split at h
  · rename_i hw
    rw [hw]
    simp only
    split at h
    · rename_i v σ' he
      simp only [Option.some.injEq] at h; subst h
      rw [he]
      have := hk _ (List.mem_singleton.2 rfl)
      simpa only [vput_eq, upon] using this
    · rename_i xs0 he
      rw [he]
      split at h
      · cases h
      · simp only [Option.some.injEq] at h; subst h
        refine ⟨by simp, fun p hp => ?_⟩
        have := hk _ (List.mem_map.2 ⟨p, hp, rfl⟩)
        simpa only [vput_eq] using this
    · rename_i f args he
      rw [he]
      split at h
      · cases h
      · rename_i ys hy
        simp only [Option.some.injEq] at h; subst h
        refine ACalls.mono (hc _ _ _ _ hy) fun v σ' hm => ?_
        have := hk _ (List.mem_map.2 ⟨(v, σ'), hm, rfl⟩)
        simpa only [vput_eq] using this
    · rename_i β args he
      rw [he]
      split at h
      · cases h
      · rename_i ys hy
        simp only [Option.some.injEq] at h; subst h
        refine AYields.mono (hc _ _ _ _ hy) fun v σ' hm => ?_
        have := hk _ (List.mem_map.2 ⟨(v, σ'), hm, rfl⟩)
        simpa only [vput_eq] using this
    · cases h
  · rename_i hw
    rw [hw]
    simp only [Option.some.injEq] at h; subst h
    have := hk _ (List.mem_singleton.2 rfl)
    simpa only [vput_eq] using this
  · cases h
theorem doAll_sound {call : CallF} (hc : CS P call) {K : Env -> St -> Prop} : ∀ {is : List AInstr} {l : List AV} {σ : St} {xs : List (List AV × St)}, doAll call is l σ = some xs -> (∀ p, p ∈ xs -> K (vget p.1) p.2) -> AL P is K (vget l) σ
  | [], l, σ, xs, h, hk => by
    simp only [doAll, Option.some.injEq] at h; subst h
    exact hk _ (List.mem_singleton.2 rfl)
  | i :: r, l, σ, xs, h, hk => by
    simp only [doAll] at h
    split at h
    · cases h
    · rename_i ys hy
      refine doOne_sound hc hy fun p hp => ?_
      obtain ⟨a, ha, h2⟩ := coll_mem h p hp
      exact doAll_sound hc ha fun q hq => hk q (h2 q hq)
def sbB : List (Nat × Blk) -> St -> Bool
  | [], _ => true
  | (β, b) :: r, σ => (match lk σ.H β with | some c => beqB c b | none => false) && sbB r σ
theorem sbB_eq : ∀ {l : List (Nat × Blk)} {σ : St}, sbB l σ = true -> SB l σ
  | [], σ, _ => SB.nil σ
  | (β, b) :: r, σ, h => by
    simp only [sbB, Bool.and_eq_true] at h
    obtain ⟨h1, h2⟩ := h
    split at h1
    · rename_i c hc
      exact SB.cons (by rw [hc, beqB_eq h1]) (sbB_eq h2)
    · cases h1
noncomputable def doT (call : CallF) (is : List AInstr) (l : List (Nat × Blk)) : QT -> List AV -> St -> Option (List (List AV × St))
  | .nil, e, σ => some [(e, σ)]
  | .p i t, e, σ => match doOne call (is.getD i default) e ⟨l, 0⟩ with
    | none => none
    | some xs => coll (fun p => doT call is l t p.1 σ) xs
  | .q i t, e, σ => match wanted (vget e) (is.getD i default).guard, (is.getD i default).op with
    | some true, .call f args => match purL (ovs e args) with
      | true => match call (.f f) (ovs e args) ⟨[], 0⟩ with
        | some [(v, _)] => match v.scal with
          | true => doT call is l t (vput e (is.getD i default).dst v) σ
          | false => none
        | _ => none
      | false => none
    | _, _ => none
  | .a i t, e, σ => match doOne call (is.getD i default) e σ with
    | none => none
    | some xs => coll (fun p => if sbB l p.2 = true then doT call is l t p.1 p.2 else none) xs
  | .z i t, e, σ => match doOne call (is.getD i default) e σ with
    | none => none
    | some xs => coll (fun p => doT call is l t p.1 p.2) xs
  | .b i t j u, e, σ => match doOne call (is.getD i default) e σ, doOne call (is.getD j default) e σ with
    | some xs, some ys => match coll (fun p => if sbB l p.2 = true then doT call is l t p.1 p.2 else none) xs, coll (fun p => if sbB l p.2 = true then doT call is l u p.1 p.2 else none) ys with
      | some a, some b => some (a ++ b)
      | _, _ => none
    | _, _ => none
  | .c _ _ _ _ _ _, _, _ => none
  | .r _ _, _, _ => none
theorem doT_sound {call : CallF} (hc : CS P call) {is : List AInstr} {l : List (Nat × Blk)} {K : Env -> St -> Prop} : ∀ {t : QT} {e : List AV} {σ : St} {xs : List (List AV × St)}, doT call is l t e σ = some xs -> (∀ p, p ∈ xs -> K (vget p.1) p.2) -> AQ P is l K t (vget e) σ
  | .nil, e, σ, xs, h, hk => by
    simp only [doT, Option.some.injEq] at h; subst h
    exact hk _ (List.mem_singleton.2 rfl)
  | .p i t, e, σ, xs, h, hk => by
    simp only [doT] at h
    split at h
    · cases h
    · rename_i ys hy
      refine doOne_sound hc hy fun p hp => ?_
      obtain ⟨a, ha, h2⟩ := coll_mem h p hp
      exact doT_sound hc ha fun q hq => hk q (h2 q hq)
  | .q i t, e, σ, xs, h, hk => by
    simp only [doT] at h
    split at h
    · rename_i f args hw hop
      split at h
      · rename_i hp
        split at h
        · rename_i v σ0 hcall
          split at h
          · rename_i hsc
            refine ⟨v, fun σ' => ?_, ?_⟩
            · unfold AO
              rw [hw, hop]
              simp only [evalOp, upon]
              have h1 := hc (.f f) _ _ _ hcall
              rw [ovs_eq] at h1 hp
              refine (ACalls.frame (σ := σ') h1 hp (fun v' σ1 hm => ?_)).mono fun v' σ1 hm => ?_
              · have := List.mem_singleton.1 hm
                simp only [Prod.mk.injEq] at this
                rw [this.1]; exact hsc
              · obtain ⟨⟨σ2, hm⟩, rfl⟩ := hm
                have := List.mem_singleton.1 hm
                simp only [Prod.mk.injEq] at this
                rw [this.1]; exact ⟨rfl, rfl⟩
            · rw [<- vput_eq]
              exact doT_sound hc h hk
          · cases h
        · cases h
      · cases h
    · cases h
  | .r i t, e, σ, xs, h, hk => by simp [doT] at h
  | .a i t, e, σ, xs, h, hk => by
    simp only [doT] at h
    split at h
    · cases h
    · rename_i ys hy
      refine doOne_sound hc hy fun p hp => ?_
      obtain ⟨a, ha, h2⟩ := coll_mem h p hp
      split at ha
      · rename_i hs
        exact ⟨sbB_eq hs, doT_sound hc ha fun q hq => hk q (h2 q hq)⟩
      · cases ha
  | .z i t, e, σ, xs, h, hk => by
    simp only [doT] at h
    split at h
    · cases h
    · rename_i ys hy
      refine doOne_sound hc hy fun p hp => ?_
      obtain ⟨a, ha, h2⟩ := coll_mem h p hp
      exact doT_sound hc ha fun q hq => hk q (h2 q hq)
  | .b i t j u, e, σ, xs, h, hk => by
    simp only [doT] at h
    split at h
    · rename_i ys zs hy hz
      split at h
      · rename_i a b ha hb
        simp only [Option.some.injEq] at h; subst h
        refine ⟨doOne_sound hc hy fun p hp => ?_, doOne_sound hc hz fun p hp => ?_⟩
        · obtain ⟨c, hc', h2⟩ := coll_mem ha p hp
          split at hc'
          · rename_i hs
            exact ⟨sbB_eq hs, doT_sound hc hc' fun q hq => hk q (List.mem_append_left _ (h2 q hq))⟩
          · cases hc'
        · obtain ⟨c, hc', h2⟩ := coll_mem hb p hp
          split at hc'
          · rename_i hs
            exact ⟨sbB_eq hs, doT_sound hc hc' fun q hq => hk q (List.mem_append_right _ (h2 q hq))⟩
          · cases hc'
      · cases h
    · cases h
  | .c _ _ _ _ _ _, e, σ, xs, h, hk => by simp [doT] at h
noncomputable def pathB (σ : St) : AV -> List Nat -> Option (Nat × Blk)
  | .ptr β _, [] => (lk σ.H β).map fun b => (β, b)
  | .map β, [] => (lk σ.H β).map fun b => (β, b)
  | .hs β _ _ _, [] => (lk σ.H β).map fun b => (β, b)
  | .ptr β off, o :: r => match lk σ.H β with
    | some (.arr c) => pathB σ (vget c (off + o)) r
    | _ => none
  | _, _ => none
noncomputable def pathsB (σ : St) (l : List AV) : List (Nat × List Nat) -> List (Nat × Blk)
  | [] => []
  | (t, p) :: r => match pathB σ (vget l t) p with
    | some x => x :: pathsB σ l r
    | none => pathsB σ l r
abbrev Hints := Nat -> Nat -> Option (Option Nat × QT × List (Nat × List Nat))
def firstDst : List AInstr -> Nat
  | [] => 0
  | i :: r => match i.dst with | some d => d | none => firstDst r
noncomputable def doQ (call : CallF) (hint : Hints) (is : List AInstr) (deps : List (List Nat)) (e : List AV) (σ : St) : Option (List (List AV × St)) :=
  match hint (firstDst is) is.length with
  | none => none
  | some (z, t, ps) =>
    if (okQ is deps (ancs [] deps) z t [] && Nat.ble t.depth is.length) = true then
      let l := pathsB σ e ps
      if sbB l σ = true then doT call is l t e σ else none
    else none
abbrev Outc := List (Ex × List AV × St)
noncomputable def loopX (body : List AV -> St -> Option Outc) : Nat -> List AV -> St -> Option Outc
  | 0, _, _ => none
  | n + 1, l, σ => match body l σ with
    | none => none
    | some xs => coll (fun p => match p.1 with
      | .nrm => loopX body n p.2.1 p.2.2
      | _ => some [p]) xs
noncomputable def execC (call : CallF) (hint : Hints) (lf nt : Nat) (top : Bool) : ACode -> List AV -> St -> Option Outc
  | .skip, l, σ => some [(.nrm, l, σ)]
  | .exit i, l, σ => some [(.ext i, l, σ)]
  | .ret, l, σ => some [(.ret, l, σ)]
  | .seq a b, l, σ => match execC call hint lf nt top a l σ with
    | none => none
    | some xs => coll (fun p => match p.1 with
      | .nrm => execC call hint lf nt top b p.2.1 p.2.2
      | _ => some [p]) xs
  | .rg is, l, σ => match doAll call is l σ with
    | none => none
    | some xs => some (xs.map fun p => (.nrm, p.1, p.2))
  | .qrg is deps, l, σ => match doQ call hint is deps l σ with
    | none => none
    | some xs => some (xs.map fun p => (.nrm, p.1, p.2))
  | .cond c a b, l, σ => match c.ev (vget l) with
    | .bool true => execC call hint lf nt top a l σ
    | .bool false => execC call hint lf nt top b l σ
    | _ => none
  | .block id c, l, σ => match execC call hint lf nt top c l σ with
    | none => none
    | some xs => some (xs.map fun p => match p.1 with
      | .ext i => if i = id then (.nrm, p.2.1, p.2.2) else p
      | _ => p)
  | .loop c, l, σ => loopX (execC call hint lf nt top c) lf l σ
  | .scope c, l, σ => execC call hint lf nt top c l σ
  | .rf f ps asg body, l, σ => match top, f.ev (vget l) with
    | true, .fn gf cap => match call (.f gf) (.yld σ.n :: cap) (σ.new (.loop .ready none ((List.range nt).map (vget l)) ps asg body)) with
      | none => none
      | some xs => coll (fun p => match lk p.2.H σ.n with
        | some (.loop .ready none _ _ _ _) => some [(.nrm, l, p.2.del σ.n)]
        | some (.loop .done none _ _ _ _) => some [(.nrm, l, p.2.del σ.n)]
        | some (.loop .done (some (.exit i)) _ _ _ _) => some [(.ext i, l, p.2.del σ.n)]
        | some (.loop .done (some .ret) _ _ _ _) => some [(.ret, l, p.2.del σ.n)]
        | _ => none) xs
    | _, _ => none
  | .bad, _, _ => none
def In (xs : Outc) (x : Ex) (ρ : Env) (σ : St) : Prop := ∃ l, ρ = vget l /\ (x, l, σ) ∈ xs
theorem In.mono {xs ys : Outc} (h : ∀ p, p ∈ xs -> p ∈ ys) {x : Ex} {ρ : Env} {σ : St} (hx : In xs x ρ σ) : In ys x ρ σ := let ⟨l, e, hm⟩ := hx; ⟨l, e, h _ hm⟩
theorem LoopN.mono {ro : Option Nat} {nt : Nat} {c : ACode} {Q Q' : Ex -> Env -> St -> Prop} (h : ∀ x ρ σ, Q x ρ σ -> Q' x ρ σ) : ∀ {n : Nat} {ρ : Env} {σ : St}, LoopN P ro nt c Q n ρ σ -> LoopN P ro nt c Q' n ρ σ
  | 0, _, _, hn => hn
  | n + 1, ρ, σ, hn => AW.mono hn fun x ρ σ hx => by
    cases x with
    | nrm => exact LoopN.mono h hx
    | ext i => exact h _ _ _ hx
    | ret => exact h _ _ _ hx
section
variable {call : CallF} {hint : Hints} {lf nt : Nat}
theorem loopX_sound {ro : Option Nat} {c : ACode} {body : List AV -> St -> Option Outc} (hb : ∀ l σ xs, body l σ = some xs -> AW P ro nt c (In xs) (vget l) σ) : ∀ (n : Nat) (l : List AV) (σ : St) (xs : Outc),
    loopX body n l σ = some xs -> LoopN P ro nt c (In xs) n (vget l) σ
  | 0, l, σ, xs, h => by simp [loopX] at h
  | n + 1, l, σ, xs, h => by
    simp only [loopX] at h
    split at h
    · cases h
    · rename_i ys hy
      refine AW.mono (hb _ _ _ hy) fun x ρ σ' hx => ?_
      obtain ⟨l', rfl, hm⟩ := hx
      obtain ⟨a, ha, h2⟩ := coll_mem h _ hm
      cases x with
      | nrm => exact LoopN.mono (fun x ρ σ hx => hx.mono h2) (loopX_sound hb n l' σ' a ha)
      | ext i =>
        simp only [Option.some.injEq] at ha; subst ha
        exact ⟨l', rfl, h2 _ (List.mem_singleton.2 rfl)⟩
      | ret =>
        simp only [Option.some.injEq] at ha; subst ha
        exact ⟨l', rfl, h2 _ (List.mem_singleton.2 rfl)⟩
theorem execC_sound (hm : P.follows .mixedOrders = true) (hc : CS P call) (top : Bool) (ro : Option Nat) (hro : top = true -> ro = none) : ∀ (c : ACode) (l : List AV) (σ : St) (xs : Outc), execC call hint lf nt top c l σ = some xs -> AW P ro nt c (In xs) (vget l) σ
  | .skip, l, σ, xs, h => by
    simp only [execC, Option.some.injEq] at h; subst h
    exact AW.skip ⟨l, rfl, List.mem_singleton.2 rfl⟩
  | .exit i, l, σ, xs, h => by
    simp only [execC, Option.some.injEq] at h; subst h
    exact AW.exit ⟨l, rfl, List.mem_singleton.2 rfl⟩
  | .ret, l, σ, xs, h => by
    simp only [execC, Option.some.injEq] at h; subst h
    exact AW.ret ⟨l, rfl, List.mem_singleton.2 rfl⟩
  | .seq a b, l, σ, xs, h => by
    simp only [execC] at h
    split at h
    · cases h
    · rename_i ys hy
      refine AW.seq (AW.mono (execC_sound hm hc top ro hro a l σ ys hy) fun x ρ σ' hx => ?_)
      obtain ⟨l', rfl, hmm⟩ := hx
      obtain ⟨z, hz, h2⟩ := coll_mem h _ hmm
      cases x with
      | nrm => exact AW.mono (execC_sound hm hc top ro hro b l' σ' z hz) fun x ρ σ hx => hx.mono h2
      | ext i =>
        simp only [Option.some.injEq] at hz; subst hz
        exact ⟨l', rfl, h2 _ (List.mem_singleton.2 rfl)⟩
      | ret =>
        simp only [Option.some.injEq] at hz; subst hz
        exact ⟨l', rfl, h2 _ (List.mem_singleton.2 rfl)⟩
  | .rg is, l, σ, xs, h => by
    simp only [execC] at h
    split at h
    · cases h
    · rename_i ys hy
      simp only [Option.some.injEq] at h; subst h
      exact AW.rg hm (doAll_sound hc hy fun p hp => ⟨p.1, rfl, List.mem_map.2 ⟨p, hp, rfl⟩⟩)
  | .qrg is deps, l, σ, xs, h => by
    simp only [execC] at h
    split at h
    · cases h
    · rename_i ys hy
      simp only [Option.some.injEq] at h; subst h
      simp only [doQ] at hy
      split at hy
      · cases hy
      · rename_i z t ps _
        split at hy
        · rename_i hok
          simp only [Bool.and_eq_true] at hok
          split at hy
          · rename_i hs
            exact AW.qt z t (pathsB σ l ps) hm hok.1 (Nat.le_of_ble_eq_true hok.2) (sbB_eq hs) (doT_sound hc hy fun p hp => ⟨p.1, rfl, List.mem_map.2 ⟨p, hp, rfl⟩⟩)
          · cases hy
        · cases hy
  | .cond c a b, l, σ, xs, h => by
    simp only [execC] at h
    split at h
    · rename_i he
      exact AW.cond he (execC_sound hm hc top ro hro a l σ xs h)
    · rename_i he
      exact AW.cond he (execC_sound hm hc top ro hro b l σ xs h)
    · cases h
  | .block id c, l, σ, xs, h => by
    simp only [execC] at h
    split at h
    · cases h
    · rename_i ys hy
      simp only [Option.some.injEq] at h; subst h
      refine AW.block (AW.mono (execC_sound hm hc top ro hro c l σ ys hy) fun x ρ σ' hx => ?_)
      obtain ⟨l', rfl, hmm⟩ := hx
      have hmap := List.mem_map_of_mem (f := fun p : Ex × List AV × St => match p.1 with | .ext i => if i = id then ((Ex.nrm, p.2.1, p.2.2) : Ex × List AV × St) else p | _ => p) hmm
      cases x with
      | nrm => exact ⟨l', rfl, hmap⟩
      | ret => exact ⟨l', rfl, hmap⟩
      | ext i =>
        simp only [inBl]
        simp only at hmap
        split
        · rename_i e; rw [if_pos e] at hmap; exact ⟨l', rfl, hmap⟩
        · rename_i e; rw [if_neg e] at hmap; exact ⟨l', rfl, hmap⟩
  | .loop c, l, σ, xs, h => by
    simp only [execC] at h
    exact AW.unroll lf (loopX_sound (fun l σ xs h => execC_sound hm hc top ro hro c l σ xs h) lf l σ xs h)
  | .scope c, l, σ, xs, h => by
    simp only [execC] at h
    exact AW.scope (execC_sound hm hc top ro hro c l σ xs h)
  | .rf f ps asg body, l, σ, xs, h => by
    simp only [execC] at h
    split at h
    · rename_i ht gf cap he
      have hr := hro rfl
      subst hr
      split at h
      · cases h
      · rename_i ys hy
        refine AW.rf he fun _ _ => ACalls.mono (hc _ _ _ _ hy) fun v σ' hmm => ?_
        obtain ⟨z, hz, h2⟩ := coll_mem h _ hmm
        split at hz
        · rename_i hk
          simp only [Option.some.injEq] at hz; subst hz
          exact ⟨_, _, _, _, _, _, hk, by simp, l, rfl, h2 _ (List.mem_singleton.2 rfl)⟩
        · rename_i hk
          simp only [Option.some.injEq] at hz; subst hz
          exact ⟨_, _, _, _, _, _, hk, by simp, l, rfl, h2 _ (List.mem_singleton.2 rfl)⟩
        · rename_i i _ _ _ _ hk
          simp only [Option.some.injEq] at hz; subst hz
          exact ⟨_, _, _, _, _, _, hk, by simp, l, rfl, h2 _ (List.mem_singleton.2 rfl)⟩
        · rename_i hk
          simp only [Option.some.injEq] at hz; subst hz
          exact ⟨_, _, _, _, _, _, hk, by simp, l, rfl, h2 _ (List.mem_singleton.2 rfl)⟩
        · cases hz
    · cases h
  | .bad, l, σ, xs, h => by simp [execC] at h
end
noncomputable def finish (rs : List RV) (p : Ex × List AV × St) : Option (List (AV × St)) :=
  match p.1 with
  | .ext _ => none
  | _ => match resOf (vget p.2.1) p.2.2 rs with
    | none => none
    | some l => some [(resAV l, p.2.2)]
def cutH (n : Nat) : List (Nat × Blk) -> List (Nat × Blk)
  | [] => []
  | (β, b) :: r => if Nat.ble n β = true then cutH n r else (β, b) :: cutH n r
theorem lk_cutH {n : Nat} : ∀ {H : List (Nat × Blk)} {β : Nat} {b : Blk}, lk (cutH n H) β = some b -> β < n /\ lk H β = some b
  | [], β, b, h => by simp [cutH, lk] at h
  | (a, c) :: r, β, b, h => by
    simp only [cutH] at h
    split at h
    · rename_i ha
      obtain ⟨h1, h2⟩ := lk_cutH h
      refine ⟨h1, ?_⟩
      simp only [lk]
      rw [if_neg (fun e => by subst e; have := Nat.le_of_ble_eq_true ha; omega)]
      exact h2
    · rename_i ha
      simp only [lk] at h ⊢
      split at h
      · rename_i e
        rw [if_pos e]
        refine ⟨?_, h⟩
        rcases Nat.lt_or_ge a n with x | x
        · rw [<- e]; exact x
        · exact absurd (Nat.ble_eq_true_of_le x) ha
      · rename_i e
        rw [if_neg e]
        exact lk_cutH h
def gc (n : Nat) (p : AV × St) : AV × St := (p.1.er, { H := cutH n p.2.H, n := p.2.n })
theorem vw_gc (n : Nat) (v : AV) (σ : St) : VW P v σ (gc n (v, σ)).1 (gc n (v, σ)).2 := fun g w cv r h => by
  obtain ⟨r', e'⟩ := rel_drop (P := P) (cutH n σ.H) σ.n (Nat.le_refl _) r (fun β b h => (lk_cutH h).2)
  exact ⟨g, r', (VR.er h).mono (Nat.le_refl _) (g.le_refl _) e'.eic, e'⟩
mutual
def hsOf : AV -> Option Nat
  | .hs β _ _ _ => some β
  | .tup l => hsOfL l
  | .agg l => hsOfL l
  | _ => none
def hsOfL : List AV -> Option Nat
  | [] => none
  | x :: l => match hsOf x with
    | some β => some β
    | none => hsOfL l
end
def frzO (ag : Bool) (sz : Nat) (p : AV × St) : AV × St :=
  match hsOf p.1 with
  | none => p
  | some β => match lk p.2.H β with
    | some (.arr c) => if (allSc c && (ag || Nat.beq sz 1)) = true then (p.1.fr β ag sz c, p.2.del β) else p
    | _ => p
theorem vw_frzO (ag : Bool) (sz : Nat) (p : AV × St) : VW P p.1 p.2 (frzO ag sz p).1 (frzO ag sz p).2 := by
  unfold frzO
  split
  · exact VW.refl _ _
  · split
    · split
      · rename_i β _ c hk h
        simp only [Bool.and_eq_true, Bool.or_eq_true] at h
        exact VW.frz ag sz hk h.1 (h.2.imp id Nat.eq_of_beq_eq_true)
      · exact VW.refl _ _
    · exact VW.refl _ _
def frzs (x : Option (Bool × Nat)) (p : AV × St) : AV × St := match x with | some (ag, sz) => frzO ag sz p | none => p
theorem vw_frzs (x : Option (Bool × Nat)) (p : AV × St) : VW P p.1 p.2 (frzs x p).1 (frzs x p).2 := by
  cases x with
  | none => exact VW.refl _ _
  | some x => exact vw_frzO _ _ _
structure Cfg where
  F : Nat -> Option AFunc
  prim : Nat -> List AV -> St -> Option (List (AV × St))
  hint : Hints
  keeps : Nat -> Bool
  frz : Nat -> Option (Bool × Nat)
  tight : Nat -> Bool
  lf : Nat
def lowB (n : Nat) : List (AV × St) -> Bool
  | [] => true
  | p :: r => bndV n p.1 && bndH n p.2.H && lowB n r
theorem lowB_mem {n : Nat} : ∀ {l : List (AV × St)}, lowB n l = true -> ∀ p, p ∈ l -> bndV n p.1 = true /\ bndH n p.2.H = true
  | x :: l, h, y, hy => by
    simp only [lowB, Bool.and_eq_true] at h
    rcases List.mem_cons.1 hy with rfl | hy
    · exact h.1
    · exact lowB_mem h.2 y hy
def tidy (k t : Bool) (n : Nat) (xs : List (AV × St)) : List (AV × St) :=
  match k with
  | true => once xs
  | false => match t && lowB n (xs.map (gc n)) with
    | true => once ((xs.map (gc n)).map fun p => (p.1, ⟨p.2.H, n⟩))
    | false => once (xs.map (gc n))
theorem tidy_sound {f : Nat} {args : List AV} {xs : List (AV × St)} (k t : Bool) (h : ACalls P f args σ (fun v σ' => (v, σ') ∈ xs)) : ACalls P f args σ (fun v σ' => (v, σ') ∈ tidy k t σ.n xs) := by
  unfold tidy
  cases k with
  | true => exact h.mono fun v σ' hv => mem_once hv
  | false =>
    have h1 : ACalls P f args σ (fun v σ' => (v, σ') ∈ xs.map (gc σ.n)) := h.weak fun v σ' hv => ⟨_, _, vw_gc σ.n v σ', List.mem_map_of_mem hv⟩
    simp only
    split
    · rename_i hb
      simp only [Bool.and_eq_true] at hb
      refine h1.tight fun v σ' hv => ?_
      obtain ⟨b1, b2⟩ := lowB_mem hb.2 _ hv
      exact ⟨σ'.H, fun _ _ h => h, b2, b1, mem_once (List.mem_map_of_mem (f := fun p : AV × St => (p.1, (⟨p.2.H, σ.n⟩ : St))) hv)⟩
    · exact h1.mono fun v σ' hv => mem_once hv
noncomputable def putL : List Nat -> List AV -> List AV -> List AV
  | p :: ps, a :: as, l => putL ps as (vset p l a)
  | _, _, l => l
noncomputable def go (C : Cfg) : Nat -> CallF
  | 0 => fun _ _ _ => none
  | d + 1 => fun t args σ => match t with
    | .f n => match C.prim n args σ with
      | some xs => match xs with | [] => none | x :: r => some (x :: r)
      | none => match C.F n with
        | none => none
        | some af => if Nat.ble args.length af.nt = true then
            match execC (go C d) C.hint C.lf af.nt true af.body args σ with
            | none => none
            | some xs => match coll (finish af.res) xs with
              | none => none
              | some ys => match ys with | [] => none | y :: r => some (tidy (C.keeps n) (C.tight n) σ.n ((y :: r).map (frzs (C.frz n))))
          else none
    | .y β => match lk σ.H β with
      | some (.loop .ready none ρl ps asg body) =>
        if (Nat.beq args.length ps.length && ps.all (fun p => Nat.blt p ρl.length)) = true then
          match execC (go C d) C.hint C.lf ρl.length false asg (putL ps args ρl) σ with
          | none => none
          | some xs => match coll (fun p => match p.1 with
              | .nrm => match lk p.2.2.H β with
                | some (.loop .ready none ρ1 ps1 asg1 body1) => match execC (go C d) C.hint C.lf ρl.length false body p.2.1 (p.2.2.set β (.loop .busy none ρ1 ps1 asg1 body1)) with
                  | none => none
                  | some ys => coll (fun q => match lk q.2.2.H β with
                    | some (.loop .busy none ρ2 ps2 asg2 body2) => match q.1 with
                      | .nrm => some [(AV.bool true, q.2.2.set β (.loop .ready none ρ2 ps2 asg2 body2))]
                      | .ext i => some [(AV.bool false, q.2.2.set β (.loop .done (some (.exit i)) ρ2 ps2 asg2 body2))]
                      | .ret => some [(AV.bool false, q.2.2.set β (.loop .done (some .ret) ρ2 ps2 asg2 body2))]
                    | _ => none) ys
                | _ => none
              | _ => none) xs with
            | none => none
            | some zs => match zs with | [] => none | z :: r => some (once (z :: r))
        else none
      | _ => none
theorem finish_sound {rs : List RV} {xs : Outc} {ys : List (AV × St)} (h : coll (finish rs) xs = some ys) (x : Ex) (ρ : Env) (σ : St) (hx : In xs x ρ σ) : FPost rs (fun v σ' => (v, σ') ∈ ys) x ρ σ := by
  obtain ⟨l, rfl, hm⟩ := hx
  obtain ⟨a, ha, h2⟩ := coll_mem h _ hm
  cases x with
  | ext i => simp [finish] at ha
  | nrm =>
    simp only [finish] at ha
    split at ha
    · cases ha
    · rename_i r hr
      simp only [Option.some.injEq] at ha; subst ha
      exact ⟨r, hr, h2 _ (List.mem_singleton.2 rfl)⟩
  | ret =>
    simp only [finish] at ha
    split at ha
    · cases ha
    · rename_i r hr
      simp only [Option.some.injEq] at ha; subst ha
      exact ⟨r, hr, h2 _ (List.mem_singleton.2 rfl)⟩
theorem AW.env {ro : Option Nat} {nt : Nat} {c : ACode} {Q : Ex -> Env -> St -> Prop} {ρ ρ' : Env} (he : ∀ i, i < nt -> ρ i = ρ' i) (h : AW P ro nt c Q ρ' σ) : AW P ro nt c Q ρ σ :=
  AW.weak (fun g w tm r er => ⟨g, r, ⟨er.size, fun i hi => by rw [<- he i hi]; exact er.vr i hi⟩, Evo.refl _ _ _⟩) h
theorem putL_eq : ∀ (ps : List Nat) (as : List AV) (l : List AV), vget (putL ps as l) = putAll ps as (vget l)
  | [], as, l => by cases as <;> rfl
  | p :: ps, [], l => rfl
  | p :: ps, a :: as, l => by
    simp only [putL, putAll, putL_eq ps as]
    congr 1
    exact vput_eq l (some p) a
theorem putAll_congr (n : Nat) : ∀ (ps : List Nat) (as : List AV) (ρ ρ' : Env), (∀ i, i < n -> ρ i = ρ' i) -> ∀ i, i < n -> putAll ps as ρ i = putAll ps as ρ' i
  | [], as, ρ, ρ', h => by cases as <;> exact h
  | p :: ps, [], ρ, ρ', h => h
  | p :: ps, a :: as, ρ, ρ', h => putAll_congr n ps as _ _ fun i hi => by simp only [Env.put]; rw [h i hi]
theorem vget_lt : ∀ (l : List AV) (i : Nat), i < l.length -> vget l i = l.getD i .undef
  | [], i, h => by simp at h
  | x :: l, 0, h => by simp [vget_zero]
  | x :: l, i + 1, h => by rw [vget_succ, vget_lt l i (by simpa using h)]; simp
theorem go_sound (C : Cfg) (hm : P.follows .mixedOrders = true) (hF : ∀ n af, C.F n = some af -> FOk P n af) (hp : ∀ n args σ xs, C.prim n args σ = some xs -> xs ≠ [] -> ACalls P n args σ (fun v σ' => (v, σ') ∈ xs)) : ∀ d, CS P (go C d)
  | 0, t, args, σ, xs, h => by simp [go] at h
  | d + 1, .f n, args, σ, xs, h => by
    have hc := go_sound C hm hF hp d
    simp only [go] at h
    split at h
    · rename_i ys hy
      split at h
      · cases h
      · simp only [Option.some.injEq] at h; subst h
        exact hp n args σ _ hy (by simp)
    · split at h
      · cases h
      · rename_i af haf
        split at h
        · rename_i hl
          split at h
          · cases h
          · rename_i zs hz
            split at h
            · cases h
            · rename_i ys hy
              split at h
              · cases h
              · rename_i y r
                simp only [Option.some.injEq] at h; subst h
                have h1 := execC_sound (P := P) hm hc true none (fun _ => rfl) af.body args σ zs hz
                have h2 : ACalls P n args σ (fun v σ' => (v, σ') ∈ y :: r) := by
                  refine FOk.calls (hF n af haf) (Nat.le_of_ble_eq_true hl) ?_
                  rw [<- vget_args]
                  exact AW.mono h1 fun x ρ σ' hx => finish_sound hy x ρ σ' hx
                have h3 : ACalls P n args σ (fun v σ' => (v, σ') ∈ (y :: r).map (frzs (C.frz n))) :=
                  h2.weak fun v σ' hv => ⟨_, _, vw_frzs (C.frz n) (v, σ'), List.mem_map_of_mem hv⟩
                exact tidy_sound _ _ h3
        · cases h
  | d + 1, .y β, args, σ, xs, h => by
    have hc := go_sound C hm hF hp d
    simp only [go] at h
    split at h
    · rename_i ρl ps asg body hk
      split at h
      · rename_i hb
        simp only [Bool.and_eq_true, List.all_eq_true] at hb
        split at h
        · cases h
        · rename_i us hu
          split at h
          · cases h
          · rename_i zs hz
            split at h
            · cases h
            · rename_i z r
              simp only [Option.some.injEq] at h; subst h
              have hl : args.length = ps.length := Nat.eq_of_beq_eq_true hb.1
              show AYields P β args σ _
              refine AYields.mono (K := fun v σ' => (v, σ') ∈ z :: r) (ayield' ⟨z.1, z.2, by simp⟩ hk hl (fun p hp => by have := hb.2 p hp; simpa [Nat.blt_eq] using this) fun ro => ?_) fun v σ' hv => mem_once hv
              refine AW.env (ρ' := vget (putL ps args ρl)) (fun i hi => ?_) ?_
              · rw [putL_eq]
                exact (putAll_congr ρl.length ps args _ _ (fun i hi => vget_lt ρl i hi) i hi).symm
              refine AW.mono (execC_sound (P := P) hm hc false ro (fun e => by cases e) asg _ σ us hu) fun x ρ σ' hx => ?_
              obtain ⟨l', rfl, hmm⟩ := hx
              obtain ⟨a, ha, h2⟩ := coll_mem hz _ hmm
              cases x with
              | ext i => simp at ha
              | ret => simp at ha
              | nrm =>
                simp only at ha
                split at ha
                · rename_i ρ1 ps1 asg1 body1 hk1
                  refine ⟨ρ1, ps1, asg1, body1, hk1, ?_⟩
                  split at ha
                  · cases ha
                  · rename_i ys hy
                    refine AW.mono (execC_sound (P := P) hm hc false ro (fun e => by cases e) body _ _ ys hy) fun x ρ σ'' hx => ?_
                    obtain ⟨l2, rfl, hm2⟩ := hx
                    obtain ⟨b, hb2, h3⟩ := coll_mem ha _ hm2
                    simp only at hb2
                    split at hb2
                    · rename_i ρ2 ps2 asg2 body2 hk2
                      refine ⟨ρ2, ps2, asg2, body2, hk2, ?_⟩
                      cases x with
                      | nrm => simp only [Option.some.injEq] at hb2; subst hb2; exact h2 _ (h3 _ (List.mem_singleton.2 rfl))
                      | ext i => simp only [Option.some.injEq] at hb2; subst hb2; exact h2 _ (h3 _ (List.mem_singleton.2 rfl))
                      | ret => simp only [Option.some.injEq] at hb2; subst hb2; exact h2 _ (h3 _ (List.mem_singleton.2 rfl))
                    · cases hb2
                · cases ha
      · cases h
    · cases h
end Go.Proofs.YtekhblefchceaaaGreat.AM

