/- A run of a program on abstract memory: cases, numbers, texts. -/
import Derived.Test.YthgkdadchfoomabGreatEvE
namespace Go.Proofs.YthgkdadchfoomabGreat.Ev

/-! ### Cases -/
theorem vBool_ok {α : Type} {Q : α → Prop} {no : α} {v : AV} {fbool : _} (hno : Q no) (hbool : ∀ b, v = .bool b → Q (fbool b)) : Q (vBool v no fbool) := by
  cases v <;> first | exact hno | exact hbool _ rfl
theorem vInt_ok {α : Type} {Q : α → Prop} {no : α} {v : AV} {fint : _} (hno : Q no) (hint : ∀ k n, v = .int k n → Q (fint k n)) : Q (vInt v no fint) := by
  cases v <;> first | exact hno | exact hint _ _ rfl
theorem vStr_ok {α : Type} {Q : α → Prop} {no : α} {v : AV} {fstr : _} (hno : Q no) (hstr : ∀ l, v = .str l → Q (fstr l)) : Q (vStr v no fstr) := by
  cases v <;> first | exact hno | exact hstr _ rfl
theorem vPtr_ok {α : Type} {Q : α → Prop} {no : α} {v : AV} {fptr : _} (hno : Q no) (hptr : ∀ b o, v = .ptr b o → Q (fptr b o)) : Q (vPtr v no fptr) := by
  cases v <;> first | exact hno | exact hptr _ _ rfl
theorem vPtrN_ok {α : Type} {Q : α → Prop} {no : α} {v : AV} {fnilp : _} {fptr : _} (hno : Q no) (hnilp : v = .nilp  → Q (fnilp )) (hptr : ∀ b o, v = .ptr b o → Q (fptr b o)) : Q (vPtrN v no fnilp fptr) := by
  cases v <;> first | exact hno | exact hnilp  rfl | exact hptr _ _ rfl
theorem vSl_ok {α : Type} {Q : α → Prop} {no : α} {v : AV} {fnils : _} {fslice : _} {frow : _} (hno : Q no) (hnils : v = .nils  → Q (fnils )) (hslice : ∀ b o n c, v = .slice b o n c → Q (fslice b o n c)) (hrow : ∀ b o n c, v = .row b o n c → Q (frow b o n c)) : Q (vSl v no fnils fslice frow) := by
  cases v <;> first | exact hno | exact hnils  rfl | exact hslice _ _ _ _ rfl | exact hrow _ _ _ _ rfl
theorem vSlT_ok {α : Type} {Q : α → Prop} {no : α} {v : AV} {fnils : _} {fslice : _} {frow : _} {ftail : _} (hno : Q no) (hnils : v = .nils  → Q (fnils )) (hslice : ∀ b o n c, v = .slice b o n c → Q (fslice b o n c)) (hrow : ∀ b o n c, v = .row b o n c → Q (frow b o n c)) (htail : ∀ b o p c, v = .tail b o p c → Q (ftail b o p c)) : Q (vSlT v no fnils fslice frow ftail) := by
  cases v <;> first | exact hno | exact hnils  rfl | exact hslice _ _ _ _ rfl | exact hrow _ _ _ _ rfl | exact htail _ _ _ _ rfl
theorem vMap_ok {α : Type} {Q : α → Prop} {no : α} {v : AV} {fnilm : _} {fmap : _} (hno : Q no) (hnilm : v = .nilm  → Q (fnilm )) (hmap : ∀ b, v = .map b → Q (fmap b)) : Q (vMap v no fnilm fmap) := by
  cases v <;> first | exact hno | exact hnilm  rfl | exact hmap _ rfl
theorem vFn_ok {α : Type} {Q : α → Prop} {no : α} {v : AV} {ffunc : _} {fyld : _} (hno : Q no) (hfunc : ∀ g a b, v = .func g a b → Q (ffunc g a b)) (hyld : ∀ l, v = .yld l → Q (fyld l)) : Q (vFn v no ffunc fyld) := by
  cases v <;> first | exact hno | exact hfunc _ _ _ rfl | exact hyld _ rfl
theorem vAgg_ok {α : Type} {Q : α → Prop} {no : α} {v : AV} {fagg : _} (hno : Q no) (hagg : ∀ l, v = .agg l → Q (fagg l)) : Q (vAgg v no fagg) := by
  cases v <;> first | exact hno | exact hagg _ rfl
theorem vTup_ok {α : Type} {Q : α → Prop} {no : α} {v : AV} {ftuple : _} (hno : Q no) (htuple : ∀ l, v = .tuple l → Q (ftuple l)) : Q (vTup v no ftuple) := by
  cases v <;> first | exact hno | exact htuple _ rfl
theorem vG_ok {α : Type} {Q : α → Prop} {no : α} {v : AV} {fbool : _} {fint : _} {fstr : _} (hno : Q no) (hbool : ∀ b, v = .bool b → Q (fbool b)) (hint : ∀ k n, v = .int k n → Q (fint k n)) (hstr : ∀ l, v = .str l → Q (fstr l)) : Q (vG v no fbool fint fstr) := by
  cases v <;> first | exact hno | exact hbool _ rfl | exact hint _ _ rfl | exact hstr _ rfl
theorem oCells_ok {α : Type} {Q : α → Prop} {no : α} {v : AO} {fcells : _} (hno : Q no) (hcells : ∀ m t cs, v = .cells m t cs → Q (fcells m t cs)) : Q (oCells v no fcells) := by
  cases v <;> first | exact hno | exact hcells _ _ _ rfl
theorem oMap_ok {α : Type} {Q : α → Prop} {no : α} {v : AO} {fmap : _} (hno : Q no) (hmap : ∀ es clk, v = .map es clk → Q (fmap es clk)) : Q (oMap v no fmap) := by
  cases v <;> first | exact hno | exact hmap _ _ rfl
theorem oIter_ok {α : Type} {Q : α → Prop} {no : α} {v : AO} {fiter : _} (hno : Q no) (hiter : ∀ m since seen a b, v = .iter m since seen a b → Q (fiter m since seen a b)) : Q (oIter v no fiter) := by
  cases v <;> first | exact hno | exact hiter _ _ _ _ _ rfl
theorem oLoop_ok {α : Type} {Q : α → Prop} {no : α} {v : AO} {floop : _} (hno : Q no) (hloop : ∀ l, v = .loop l → Q (floop l)) : Q (oLoop v no floop) := by
  cases v <;> first | exact hno | exact hloop _ rfl
theorem oDefr_ok {α : Type} {Q : α → Prop} {no : α} {v : AO} {fdefr : _} (hno : Q no) (hdefr : v = .defr  → Q (fdefr )) : Q (oDefr v no fdefr) := by
  cases v <;> first | exact hno | exact hdefr  rfl
theorem vBool_some {α : Type} {x : α} {v : AV} {fbool : _} (h : vBool v none fbool = some x) : (∃ b, v = .bool b ∧ fbool b = some x) := by
  cases v <;> first | exact ⟨_, rfl, h⟩ | cases h
theorem vInt_some {α : Type} {x : α} {v : AV} {fint : _} (h : vInt v none fint = some x) : (∃ k n, v = .int k n ∧ fint k n = some x) := by
  cases v <;> first | exact ⟨_, _, rfl, h⟩ | cases h
theorem vStr_some {α : Type} {x : α} {v : AV} {fstr : _} (h : vStr v none fstr = some x) : (∃ l, v = .str l ∧ fstr l = some x) := by
  cases v <;> first | exact ⟨_, rfl, h⟩ | cases h
theorem vPtr_some {α : Type} {x : α} {v : AV} {fptr : _} (h : vPtr v none fptr = some x) : (∃ b o, v = .ptr b o ∧ fptr b o = some x) := by
  cases v <;> first | exact ⟨_, _, rfl, h⟩ | cases h
theorem vPtrN_some {α : Type} {x : α} {v : AV} {fnilp : _} {fptr : _} (h : vPtrN v none fnilp fptr = some x) : (v = .nilp ∧ fnilp = some x) ∨ (∃ b o, v = .ptr b o ∧ fptr b o = some x) := by
  cases v <;> first | exact Or.inl ⟨rfl, h⟩ | exact Or.inr (⟨_, _, rfl, h⟩) | cases h
theorem vSl_some {α : Type} {x : α} {v : AV} {fnils : _} {fslice : _} {frow : _} (h : vSl v none fnils fslice frow = some x) : (v = .nils ∧ fnils = some x) ∨ (∃ b o n c, v = .slice b o n c ∧ fslice b o n c = some x) ∨ (∃ b o n c, v = .row b o n c ∧ frow b o n c = some x) := by
  cases v <;> first | exact Or.inl ⟨rfl, h⟩ | exact Or.inr (Or.inl ⟨_, _, _, _, rfl, h⟩) | exact Or.inr (Or.inr (⟨_, _, _, _, rfl, h⟩)) | cases h
theorem vSlT_some {α : Type} {x : α} {v : AV} {fnils : _} {fslice : _} {frow : _} {ftail : _} (h : vSlT v none fnils fslice frow ftail = some x) : (v = .nils ∧ fnils = some x) ∨ (∃ b o n c, v = .slice b o n c ∧ fslice b o n c = some x) ∨ (∃ b o n c, v = .row b o n c ∧ frow b o n c = some x) ∨ (∃ b o p c, v = .tail b o p c ∧ ftail b o p c = some x) := by
  cases v <;> first | exact Or.inl ⟨rfl, h⟩ | exact Or.inr (Or.inl ⟨_, _, _, _, rfl, h⟩) | exact Or.inr (Or.inr (Or.inl ⟨_, _, _, _, rfl, h⟩)) | exact Or.inr (Or.inr (Or.inr (⟨_, _, _, _, rfl, h⟩))) | cases h
theorem vMap_some {α : Type} {x : α} {v : AV} {fnilm : _} {fmap : _} (h : vMap v none fnilm fmap = some x) : (v = .nilm ∧ fnilm = some x) ∨ (∃ b, v = .map b ∧ fmap b = some x) := by
  cases v <;> first | exact Or.inl ⟨rfl, h⟩ | exact Or.inr (⟨_, rfl, h⟩) | cases h
theorem vAgg_some {α : Type} {x : α} {v : AV} {fagg : _} (h : vAgg v none fagg = some x) : (∃ l, v = .agg l ∧ fagg l = some x) := by
  cases v <;> first | exact ⟨_, rfl, h⟩ | cases h
theorem vG_some {α : Type} {x : α} {v : AV} {fbool : _} {fint : _} {fstr : _} (h : vG v none fbool fint fstr = some x) : (∃ b, v = .bool b ∧ fbool b = some x) ∨ (∃ k n, v = .int k n ∧ fint k n = some x) ∨ (∃ l, v = .str l ∧ fstr l = some x) := by
  cases v <;> first | exact Or.inl ⟨_, rfl, h⟩ | exact Or.inr (Or.inl ⟨_, _, rfl, h⟩) | exact Or.inr (Or.inr (⟨_, rfl, h⟩)) | cases h
theorem oCells_some {α : Type} {x : α} {v : AO} {fcells : _} (h : oCells v none fcells = some x) : (∃ m t cs, v = .cells m t cs ∧ fcells m t cs = some x) := by
  cases v <;> first | exact ⟨_, _, _, rfl, h⟩ | cases h
theorem oMap_some {α : Type} {x : α} {v : AO} {fmap : _} (h : oMap v none fmap = some x) : (∃ es clk, v = .map es clk ∧ fmap es clk = some x) := by
  cases v <;> first | exact ⟨_, _, rfl, h⟩ | cases h
theorem oIter_some {α : Type} {x : α} {v : AO} {fiter : _} (h : oIter v none fiter = some x) : (∃ m since seen a b, v = .iter m since seen a b ∧ fiter m since seen a b = some x) := by
  cases v <;> first | exact ⟨_, _, _, _, _, rfl, h⟩ | cases h
theorem oLoop_some {α : Type} {x : α} {v : AO} {floop : _} (h : oLoop v none floop = some x) : (∃ l, v = .loop l ∧ floop l = some x) := by
  cases v <;> first | exact ⟨_, rfl, h⟩ | cases h
theorem oDefr_some {α : Type} {x : α} {v : AO} {fdefr : _} (h : oDefr v none fdefr = some x) : (v = .defr ∧ fdefr = some x) := by
  cases v <;> first | exact ⟨rfl, h⟩ | cases h
theorem cO_ok {α β : Type} {Q : β → Prop} {no : β} {x : Option α} {f : α → β} (hno : Q no) (h : ∀ a, x = some a → Q (f a)) : Q (cO x no f) := by
  cases x <;> first | exact hno | exact h _ rfl
theorem cO_some' {α β : Type} {x : Option α} {f : α → Option β} {y : β} (h : cO x none f = some y) : ∃ a, x = some a ∧ f a = some y := by
  cases x <;> first | exact ⟨_, rfl, h⟩ | cases h
theorem cB_ok {β : Type} {Q : β → Prop} {b : Bool} {x y : β} (h1 : b = true → Q x) (h2 : b = false → Q y) : Q (cB b x y) := by
  cases b <;> first | exact h1 rfl | exact h2 rfl
theorem cB_some {β : Type} {b : Bool} {x : Option β} {y : β} (h : cB b x none = some y) : b = true ∧ x = some y := by
  cases b <;> first | exact ⟨rfl, h⟩ | cases h
theorem cL_ok {α β : Type} {Q : β → Prop} {no : β} {x : List α} {f : α → List α → β} (hno : x = [] → Q no) (h : ∀ a l, x = a :: l → Q (f a l)) : Q (cL x no f) := by
  cases x <;> first | exact hno rfl | exact h _ _ rfl
theorem cI_ok {β : Type} {Q : β → Prop} {x : Int} {f g : Nat → β} (h1 : ∀ n, x = .ofNat n → Q (f n)) (h2 : ∀ n, x = .negSucc n → Q (g n)) : Q (cI x f g) := by
  cases x <;> first | exact h1 _ rfl | exact h2 _ rfl
theorem cMd_ok {β : Type} {Q : β → Prop} {m : Md} {x y z : β} (h1 : m = .own → Q x) (h2 : m = .row → Q y) (h3 : m = .lib → Q z) : Q (cMd m x y z) := by
  cases m <;> first | exact h1 rfl | exact h2 rfl | exact h3 rfl
end Go.Proofs.YthgkdadchfoomabGreat.Ev
