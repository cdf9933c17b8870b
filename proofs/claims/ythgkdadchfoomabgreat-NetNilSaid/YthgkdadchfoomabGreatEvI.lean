/- A run of a program on abstract memory: operations that only reckon. -/
import Derived.Test.YthgkdadchfoomabGreatEvG
import Derived.Laws.StructEq
namespace Go.Proofs.YthgkdadchfoomabGreat.Ev

/-- What an operation that yields a value comes to. -/
noncomputable def AN.okV (P : Program) (ρ : Rho) (S : AS) (w : World) (r : Result Value) : AN → Prop
  | .no => True
  | .get v => ∃ u, conc ρ v = some u ∧ r = .ok u w
  | .val v S' => ∃ ρ' u w', r = .ok u w' ∧ Ext ρ S w ρ' S' w' ∧ Sat P ρ' S' w' ∧ conc ρ' v = some u
  | .pick l => ∃ x, x ∈ l ∧ ∃ ρ' u w', r = .ok u w' ∧ Ext ρ S w ρ' x.2 w' ∧ Sat P ρ' x.2 w' ∧ conc ρ' x.1 = some u
  | .enter .. => False
  | .round .. => False
/-- What an operation that yields nothing comes to. -/
noncomputable def AN.okU (P : Program) (ρ : Rho) (S : AS) (w : World) (r : Result Unit) : AN → Prop
  | .no => True
  | .val v S' => v = .tuple [] ∧ ∃ ρ' w', r = .ok () w' ∧ Ext ρ S w ρ' S' w' ∧ Sat P ρ' S' w'
  | _ => False
section
variable {P : Program} {ρ : Rho} {S : AS} {w : World}

/-! ### Numbers -/
theorem conc_int {k : IntKind} {n : Int} {u : Value} (h : conc ρ (.int k n) = some u) : u = .int k n := by simp only [conc] at h; cases h; rfl
theorem conc_bool {b : Bool} {u : Value} (h : conc ρ (.bool b) = some u) : u = .bool b := by simp only [conc] at h; cases h; rfl
theorem conc_str {l : List Nat} {u : Value} (h : conc ρ (.str l) = some u) : ∃ b, u = .string b ∧ textOf l = some b := by
  simp only [conc] at h
  split at h
  · rename_i b e; cases h; exact ⟨b, rfl, e⟩
  · cases h
theorem conc_ptr {b : Nam} {o : Nat} {u : Value} (h : conc ρ (.ptr b o) = some u) : ∃ g off cap, look ρ b = some (.blk g off cap) ∧ u = .pointer (some ⟨g, off + o, none⟩) := by
  simp only [conc] at h
  split at h
  · rename_i g off cap e; cases h; exact ⟨g, off, cap, e, rfl⟩
  · cases h
theorem conc_slice {b : Nam} {o n c : Nat} {u : Value} (h : conc ρ (.slice b o n c) = some u) : ∃ g off cap, look ρ b = some (.blk g off cap) ∧ n ≤ c ∧ u = .slice (some ⟨g, off + o, none⟩) n c := by
  simp only [conc] at h
  split at h
  · rename_i g off cap e
    split at h
    · rename_i hn; cases h; exact ⟨g, off, cap, e, hn, rfl⟩
    · cases h
  · cases h
theorem conc_row {b : Nam} {o n c : Nat} {u : Value} (h : conc ρ (.row b o n c) = some u) : ∃ g off cap, look ρ b = some (.blk g off cap) ∧ n + c ≤ cap ∧ u = .slice (some ⟨g, off + o, none⟩) n (cap - c) := by
  simp only [conc] at h
  split at h
  · rename_i g off cap e
    split at h
    · rename_i hn; cases h; exact ⟨g, off, cap, e, hn, rfl⟩
    · cases h
  · cases h
theorem conc_tail {b : Nam} {o p c : Nat} {u : Value} (h : conc ρ (.tail b o p c) = some u) : ∃ g off cap, look ρ b = some (.blk g off cap) ∧ c ≤ cap ∧ u = .slice (some ⟨g, off + (if cap = c then o else p), none⟩) 0 (cap - c) := by
  simp only [conc] at h
  split at h
  · rename_i g off cap e
    split at h
    · rename_i hn; cases h; exact ⟨g, off, cap, e, hn, rfl⟩
    · cases h
  · cases h
theorem conc_map {b : Nam} {u : Value} (h : conc ρ (.map b) = some u) : ∃ g off cap, look ρ b = some (.blk g off cap) ∧ u = .map (some g) := by
  simp only [conc] at h
  split at h
  · rename_i g off cap e; cases h; exact ⟨g, off, cap, e, rfl⟩
  · cases h
theorem conc_nils {u : Value} (h : conc ρ .nils = some u) : u = .slice none 0 0 := by simp only [conc] at h; cases h; rfl
theorem conc_nilp {u : Value} (h : conc ρ .nilp = some u) : u = .pointer none := by simp only [conc] at h; cases h; rfl
theorem conc_nilm {u : Value} (h : conc ρ .nilm = some u) : u = .map none := by simp only [conc] at h; cases h; rfl
theorem get_int (k : IntKind) (n : Int) : AN.okV P ρ S w (.ok (.int k n) w) (.get (.int k n)) := ⟨_, by simp only [conc], rfl⟩
theorem get_bool (b : Bool) : AN.okV P ρ S w (.ok (.bool b) w) (.get (.bool b)) := ⟨_, by simp only [conc], rfl⟩
theorem get_int' {r : Result Value} {k : IntKind} {n : Int} (h : r = .ok (.int k n) w) : AN.okV P ρ S w r (.get (.int k n)) := ⟨_, by simp only [conc], h⟩
theorem get_bool' {r : Result Value} {b : Bool} (h : r = .ok (.bool b) w) : AN.okV P ρ S w r (.get (.bool b)) := ⟨.bool b, by simp only [conc], h⟩
theorem get_of {v : AV} {u : Value} (h : conc ρ v = some u) : AN.okV P ρ S w (.ok u w) (.get v) := ⟨u, h, rfl⟩
theorem arith_ok (op : BinOp) (k : IntKind) (a b : Int) (t : TypeId) (X Y : Operand) (h1 : op ≠ .shl) (h2 : op ≠ .shr) :
    AN.okV P ρ S w ((do eqGuard op t X Y (.int k a) (.int k b); binOp op t (.int k a) (.int k b)).run P w) ((arithA op).f k a b) := by
  have e : ((do eqGuard op t X Y (.int k a) (.int k b); binOp op t (.int k a) (.int k b)) : Sem Value).run P w = (binOp op t (.int k a) (.int k b)).run P w := by
    cases op <;> simp [eqGuard]
  rw [e]
  cases op
  case shl => exact absurd rfl h1
  case shr => exact absurd rfl h2
  case add => simp only [arithA, binOp, Op.intArith, wrapA_eq, iadd_eq, ne_eq, not_true, if_false]; exact get_int _ _
  case sub => simp only [arithA, binOp, Op.intArith, wrapA_eq, isub_eq, ne_eq, not_true, if_false]; exact get_int _ _
  case mul => simp only [arithA, binOp, Op.intArith, wrapA_eq, imul_eq, ne_eq, not_true, if_false]; exact get_int _ _
  case quo =>
    simp only [arithA, binOp, Op.intDiv, wrapA_eq, iquo_eq, ieq_eq]
    refine cB_ok (fun _ => trivial) fun hb => ?_
    simp only [decide_eq_false_iff_not] at hb
    simp only [ne_eq, not_true, if_false, hb]
    exact get_int _ _
  case rem =>
    simp only [arithA, binOp, Op.intDiv, irem_eq, ieq_eq]
    refine cB_ok (fun _ => trivial) fun hb => ?_
    simp only [decide_eq_false_iff_not] at hb
    simp only [ne_eq, not_true, if_false, hb]
    exact get_int _ _
  case and => simp only [arithA, binOp, Op.intBits, wrapA_eq, natA_eq, ne_eq, not_true, if_false, BitVec.toNat_and]; exact get_int _ _
  case or => simp only [arithA, binOp, Op.intBits, wrapA_eq, natA_eq, ne_eq, not_true, if_false, BitVec.toNat_or]; exact get_int _ _
  case xor => simp only [arithA, binOp, Op.intBits, wrapA_eq, natA_eq, ne_eq, not_true, if_false, BitVec.toNat_xor]; exact get_int _ _
  case andNot => simp only [arithA, binOp, Op.intBits, wrapA_eq, natA_eq, ne_eq, not_true, if_false, BitVec.toNat_and, BitVec.toNat_not]; exact get_int _ _
  case eql =>
    simp only [arithA, binOp, Op.intCmp, ne_eq, not_true, if_false, ieq_eq]
    exact get_bool _
  case neq =>
    simp only [arithA, binOp, Op.intCmp, ne_eq, not_true, if_false, ieq_eq, bNot_eq]
    refine get_bool' ?_
    simp [bne, BEq.beq]
  case lss =>
    simp only [arithA, binOp, Op.intCmp, ne_eq, not_true, if_false, ile_eq, bNot_eq]
    refine get_bool' ?_
    simp [← Int.not_le]
  case leq =>
    simp only [arithA, binOp, Op.intCmp, ne_eq, not_true, if_false, ile_eq]
    exact get_bool _
  case gtr =>
    simp only [arithA, binOp, Op.intCmp, ne_eq, not_true, if_false, ile_eq, bNot_eq]
    refine get_bool' ?_
    simp [← Int.not_le]
  case geq =>
    simp only [arithA, binOp, Op.intCmp, ne_eq, not_true, if_false, ile_eq]
    refine get_bool' ?_
    simp
theorem shl_ok (k j : IntKind) (a b : Int) (t : TypeId) (X Y : Operand) :
    AN.okV P ρ S w ((do eqGuard .shl t X Y (.int k a) (.int j b); binOp .shl t (.int k a) (.int j b)).run P w) ((shiftA .shl).f k a b) := by
  refine cI_ok (fun n hn => ?_) fun _ _ => trivial
  subst hn
  have e : ((do eqGuard .shl t X Y (.int k a) (.int j (.ofNat n)); binOp .shl t (.int k a) (.int j (.ofNat n))) : Sem Value).run P w = .ok (.int k (k.wrap (a * 2 ^ (min n k.bits)))) w := by
    have : ¬ ((n : Int) < 0) := by omega
    simp [eqGuard, binOp, Op.shift, this]
  rw [e, wrapA_eq, imul_eq, minN_eq]
  refine get_int' ?_
  simp [bits_, Int.natCast_pow]
theorem shr_ok (k j : IntKind) (a b : Int) (t : TypeId) (X Y : Operand) :
    AN.okV P ρ S w ((do eqGuard .shr t X Y (.int k a) (.int j b); binOp .shr t (.int k a) (.int j b)).run P w) ((shiftA .shr).f k a b) := by
  refine cI_ok (fun n hn => ?_) fun _ _ => trivial
  subst hn
  have e : ((do eqGuard .shr t X Y (.int k a) (.int j (.ofNat n)); binOp .shr t (.int k a) (.int j (.ofNat n))) : Sem Value).run P w = .ok (.int k (a.fdiv (2 ^ (min n k.bits)))) w := by
    have : ¬ ((n : Int) < 0) := by omega
    simp [eqGuard, binOp, Op.shift, this]
  rw [e]
  have e2 : (cI a (fun m => Int.ofNat (Nat.div m (Nat.pow 2 (minN n (bits_ k))))) fun m => Int.fdiv (.negSucc m) (.ofNat (Nat.pow 2 (minN n (bits_ k))))) = a.fdiv (2 ^ (min n k.bits)) := by
    rw [minN_eq]
    have hp : ((2 : Int) ^ (min n k.bits)) = Int.ofNat (Nat.pow 2 (min n k.bits)) := by
      rw [Int.ofNat_eq_natCast]; show _ = ((2 ^ (min n k.bits) : Nat) : Int); rw [Int.natCast_pow]; rfl
    rw [hp]
    cases a with
    | ofNat m =>
      show Int.ofNat (m / Nat.pow 2 (min n (bits_ k))) = _
      rw [show (Int.ofNat m).fdiv (Int.ofNat (Nat.pow 2 (min n k.bits))) = Int.ofNat (m / (Nat.pow 2 (min n k.bits))) from by
        rw [Int.ofNat_eq_natCast, Int.ofNat_eq_natCast, Int.ofNat_eq_natCast]; rw [Int.fdiv_eq_ediv_of_nonneg _ (by omega)]; rfl]
      rfl
    | negSucc m => rfl
  refine get_int' ?_
  rw [← e2]
theorem un_ok (op : UnOp) (v : AV) (u : Value) (h : conc ρ v = some u) : AN.okV P ρ S w ((Op.unary op u).run P w) ((unA op).f v) := by
  cases op with
  | not =>
    refine vBool_ok trivial fun b hb => ?_
    subst hb; cases conc_bool h
    rw [bNot_eq]; exact get_bool _
  | neg =>
    refine vInt_ok trivial fun k n hb => ?_
    subst hb; cases conc_int h
    rw [wrapA_eq, isub_eq]; exact get_int _ _
  | xor =>
    refine vInt_ok trivial fun k n hb => ?_
    subst hb; cases conc_int h
    simp only [Op.unary, Op.intBits, wrapA_eq, natA_eq]
    refine get_int' ?_
    show Result.ok _ w = _
    congr 2
  | plus => exact trivial

/-! ### Texts -/
theorem text_same {a b : List Nat} {x y : ByteArray} (ha : textOf a = some x) (hb : textOf b = some y) : natsEq a b = (x.toList == y.toList) := by
  cases h : natsEq a b with
  | true =>
    have := (natsEq_iff a b).1 h
    subst this
    rw [ha] at hb; cases hb
    simp
  | false =>
    symm
    cases h2 : (x.toList == y.toList) with
    | false => rfl
    | true =>
      have h3 : x.toList = y.toList := by simpa using h2
      rw [ByteArray.toList_eq, ByteArray.toList_eq] at h3
      have : x = y := by
        obtain ⟨⟨l⟩⟩ := x
        obtain ⟨⟨m⟩⟩ := y
        simp at h3
        rw [h3]
      subst this
      rw [(natsEq_iff a b).2 (textOf_inj ha hb)] at h; cases h
theorem text_ok (op : BinOp) (a b : List Nat) (x y : ByteArray) (ha : textOf a = some x) (hb : textOf b = some y) (t : TypeId) (X Y : Operand) :
    AN.okV P ρ S w ((do eqGuard op t X Y (.string x) (.string y); binOp op t (.string x) (.string y)).run P w) ((textA op).f a b) := by
  have e := text_same ha hb
  cases op
  case eql => simp only [textA, e]; simp only [eqGuard, binOp, Op.stringOp]; exact get_bool _
  case neq => simp only [textA, e, bNot_eq]; simp only [eqGuard, binOp, Op.stringOp]; exact get_bool _
  all_goals exact trivial
end
end Go.Proofs.YthgkdadchfoomabGreat.Ev
