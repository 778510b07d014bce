/- The own logic: the lemmas that simp takes, under one name. -/
import Derived.Test.YtdenfjbhkdhlkaaLgV
import Derived.Attr
set_option linter.unusedSimpArgs false
set_option linter.unusedVariables false
namespace Go.Proofs.Ytdenfjbhkdhlkaa.Lg
open Go

theorem stepW_b_add {P : Program} {Γ : St} {f : FuncId} {n : Nat} {Q : V → St → Prop} {g : GI} {l : List GI} {kk : List It} {T : Ts} {σ : St} (k : IntKind) (a b : Int) : stepW P Γ f n Q (.bin .add (.c (.int k a)) (.c (.int k b))) g l kk T σ = W P Γ f n Q (.ops l :: kk) (putT T g.d (.int k (k.wrap (a + b)))) σ := by
 rw [stepW_pure (fun _ => rfl)]; simp [pureW, pureI, ev, binV, binInt, binStr, cutV, and_assoc]
theorem stepK_b_add {σ : St} {K : V → St → Prop} (k : IntKind) (a b : Int) : stepK (.bin .add (.c (.int k a)) (.c (.int k b))) σ K = K (.int k (k.wrap (a + b))) σ := by
 rw [stepK_pure (fun _ => rfl)]; simp [pureK, pureI, ev, binV, binInt, binStr, cutV, and_assoc]
theorem stepW_b_sub {P : Program} {Γ : St} {f : FuncId} {n : Nat} {Q : V → St → Prop} {g : GI} {l : List GI} {kk : List It} {T : Ts} {σ : St} (k : IntKind) (a b : Int) : stepW P Γ f n Q (.bin .sub (.c (.int k a)) (.c (.int k b))) g l kk T σ = W P Γ f n Q (.ops l :: kk) (putT T g.d (.int k (k.wrap (a - b)))) σ := by
 rw [stepW_pure (fun _ => rfl)]; simp [pureW, pureI, ev, binV, binInt, binStr, cutV, and_assoc]
theorem stepK_b_sub {σ : St} {K : V → St → Prop} (k : IntKind) (a b : Int) : stepK (.bin .sub (.c (.int k a)) (.c (.int k b))) σ K = K (.int k (k.wrap (a - b))) σ := by
 rw [stepK_pure (fun _ => rfl)]; simp [pureK, pureI, ev, binV, binInt, binStr, cutV, and_assoc]
theorem stepW_b_mul {P : Program} {Γ : St} {f : FuncId} {n : Nat} {Q : V → St → Prop} {g : GI} {l : List GI} {kk : List It} {T : Ts} {σ : St} (k : IntKind) (a b : Int) : stepW P Γ f n Q (.bin .mul (.c (.int k a)) (.c (.int k b))) g l kk T σ = W P Γ f n Q (.ops l :: kk) (putT T g.d (.int k (k.wrap (a * b)))) σ := by
 rw [stepW_pure (fun _ => rfl)]; simp [pureW, pureI, ev, binV, binInt, binStr, cutV, and_assoc]
theorem stepK_b_mul {σ : St} {K : V → St → Prop} (k : IntKind) (a b : Int) : stepK (.bin .mul (.c (.int k a)) (.c (.int k b))) σ K = K (.int k (k.wrap (a * b))) σ := by
 rw [stepK_pure (fun _ => rfl)]; simp [pureK, pureI, ev, binV, binInt, binStr, cutV, and_assoc]
theorem stepW_b_quo {P : Program} {Γ : St} {f : FuncId} {n : Nat} {Q : V → St → Prop} {g : GI} {l : List GI} {kk : List It} {T : Ts} {σ : St} (k : IntKind) (a b : Int) : stepW P Γ f n Q (.bin .quo (.c (.int k a)) (.c (.int k b))) g l kk T σ = (if b ≠ 0 then W P Γ f n Q (.ops l :: kk) (putT T g.d (.int k (k.wrap (a.tdiv b)))) σ else False) := by
 rw [stepW_pure (fun _ => rfl)]; simp [pureW, pureI, ev, binV, binInt, binStr, cutV, and_assoc]
theorem stepK_b_quo {σ : St} {K : V → St → Prop} (k : IntKind) (a b : Int) : stepK (.bin .quo (.c (.int k a)) (.c (.int k b))) σ K = (if b ≠ 0 then K (.int k (k.wrap (a.tdiv b))) σ else False) := by
 rw [stepK_pure (fun _ => rfl)]; simp [pureK, pureI, ev, binV, binInt, binStr, cutV, and_assoc]
theorem stepW_b_rem {P : Program} {Γ : St} {f : FuncId} {n : Nat} {Q : V → St → Prop} {g : GI} {l : List GI} {kk : List It} {T : Ts} {σ : St} (k : IntKind) (a b : Int) : stepW P Γ f n Q (.bin .rem (.c (.int k a)) (.c (.int k b))) g l kk T σ = (if b ≠ 0 then W P Γ f n Q (.ops l :: kk) (putT T g.d (.int k (a.tmod b))) σ else False) := by
 rw [stepW_pure (fun _ => rfl)]; simp [pureW, pureI, ev, binV, binInt, binStr, cutV, and_assoc]
theorem stepK_b_rem {σ : St} {K : V → St → Prop} (k : IntKind) (a b : Int) : stepK (.bin .rem (.c (.int k a)) (.c (.int k b))) σ K = (if b ≠ 0 then K (.int k (a.tmod b)) σ else False) := by
 rw [stepK_pure (fun _ => rfl)]; simp [pureK, pureI, ev, binV, binInt, binStr, cutV, and_assoc]
theorem stepW_b_and {P : Program} {Γ : St} {f : FuncId} {n : Nat} {Q : V → St → Prop} {g : GI} {l : List GI} {kk : List It} {T : Ts} {σ : St} (k : IntKind) (a b : Int) : stepW P Γ f n Q (.bin .and (.c (.int k a)) (.c (.int k b))) g l kk T σ = W P Γ f n Q (.ops l :: kk) (putT T g.d (.int k (bitsV .and k a b))) σ := by
 rw [stepW_pure (fun _ => rfl)]; simp [pureW, pureI, ev, binV, binInt, binStr, cutV, and_assoc]
theorem stepK_b_and {σ : St} {K : V → St → Prop} (k : IntKind) (a b : Int) : stepK (.bin .and (.c (.int k a)) (.c (.int k b))) σ K = K (.int k (bitsV .and k a b)) σ := by
 rw [stepK_pure (fun _ => rfl)]; simp [pureK, pureI, ev, binV, binInt, binStr, cutV, and_assoc]
theorem stepW_b_or {P : Program} {Γ : St} {f : FuncId} {n : Nat} {Q : V → St → Prop} {g : GI} {l : List GI} {kk : List It} {T : Ts} {σ : St} (k : IntKind) (a b : Int) : stepW P Γ f n Q (.bin .or (.c (.int k a)) (.c (.int k b))) g l kk T σ = W P Γ f n Q (.ops l :: kk) (putT T g.d (.int k (bitsV .or k a b))) σ := by
 rw [stepW_pure (fun _ => rfl)]; simp [pureW, pureI, ev, binV, binInt, binStr, cutV, and_assoc]
theorem stepK_b_or {σ : St} {K : V → St → Prop} (k : IntKind) (a b : Int) : stepK (.bin .or (.c (.int k a)) (.c (.int k b))) σ K = K (.int k (bitsV .or k a b)) σ := by
 rw [stepK_pure (fun _ => rfl)]; simp [pureK, pureI, ev, binV, binInt, binStr, cutV, and_assoc]
theorem stepW_b_xor {P : Program} {Γ : St} {f : FuncId} {n : Nat} {Q : V → St → Prop} {g : GI} {l : List GI} {kk : List It} {T : Ts} {σ : St} (k : IntKind) (a b : Int) : stepW P Γ f n Q (.bin .xor (.c (.int k a)) (.c (.int k b))) g l kk T σ = W P Γ f n Q (.ops l :: kk) (putT T g.d (.int k (bitsV .xor k a b))) σ := by
 rw [stepW_pure (fun _ => rfl)]; simp [pureW, pureI, ev, binV, binInt, binStr, cutV, and_assoc]
theorem stepK_b_xor {σ : St} {K : V → St → Prop} (k : IntKind) (a b : Int) : stepK (.bin .xor (.c (.int k a)) (.c (.int k b))) σ K = K (.int k (bitsV .xor k a b)) σ := by
 rw [stepK_pure (fun _ => rfl)]; simp [pureK, pureI, ev, binV, binInt, binStr, cutV, and_assoc]
theorem stepW_b_andNot {P : Program} {Γ : St} {f : FuncId} {n : Nat} {Q : V → St → Prop} {g : GI} {l : List GI} {kk : List It} {T : Ts} {σ : St} (k : IntKind) (a b : Int) : stepW P Γ f n Q (.bin .andNot (.c (.int k a)) (.c (.int k b))) g l kk T σ = W P Γ f n Q (.ops l :: kk) (putT T g.d (.int k (bitsV .andNot k a b))) σ := by
 rw [stepW_pure (fun _ => rfl)]; simp [pureW, pureI, ev, binV, binInt, binStr, cutV, and_assoc]
theorem stepK_b_andNot {σ : St} {K : V → St → Prop} (k : IntKind) (a b : Int) : stepK (.bin .andNot (.c (.int k a)) (.c (.int k b))) σ K = K (.int k (bitsV .andNot k a b)) σ := by
 rw [stepK_pure (fun _ => rfl)]; simp [pureK, pureI, ev, binV, binInt, binStr, cutV, and_assoc]
theorem stepW_b_eql {P : Program} {Γ : St} {f : FuncId} {n : Nat} {Q : V → St → Prop} {g : GI} {l : List GI} {kk : List It} {T : Ts} {σ : St} (k : IntKind) (a b : Int) : stepW P Γ f n Q (.bin .eql (.c (.int k a)) (.c (.int k b))) g l kk T σ = W P Γ f n Q (.ops l :: kk) (putT T g.d (.bool (a == b))) σ := by
 rw [stepW_pure (fun _ => rfl)]; simp [pureW, pureI, ev, binV, binInt, binStr, cutV, and_assoc]
theorem stepK_b_eql {σ : St} {K : V → St → Prop} (k : IntKind) (a b : Int) : stepK (.bin .eql (.c (.int k a)) (.c (.int k b))) σ K = K (.bool (a == b)) σ := by
 rw [stepK_pure (fun _ => rfl)]; simp [pureK, pureI, ev, binV, binInt, binStr, cutV, and_assoc]
theorem stepW_b_neq {P : Program} {Γ : St} {f : FuncId} {n : Nat} {Q : V → St → Prop} {g : GI} {l : List GI} {kk : List It} {T : Ts} {σ : St} (k : IntKind) (a b : Int) : stepW P Γ f n Q (.bin .neq (.c (.int k a)) (.c (.int k b))) g l kk T σ = W P Γ f n Q (.ops l :: kk) (putT T g.d (.bool (a != b))) σ := by
 rw [stepW_pure (fun _ => rfl)]; simp [pureW, pureI, ev, binV, binInt, binStr, cutV, and_assoc]
theorem stepK_b_neq {σ : St} {K : V → St → Prop} (k : IntKind) (a b : Int) : stepK (.bin .neq (.c (.int k a)) (.c (.int k b))) σ K = K (.bool (a != b)) σ := by
 rw [stepK_pure (fun _ => rfl)]; simp [pureK, pureI, ev, binV, binInt, binStr, cutV, and_assoc]
theorem stepW_b_lss {P : Program} {Γ : St} {f : FuncId} {n : Nat} {Q : V → St → Prop} {g : GI} {l : List GI} {kk : List It} {T : Ts} {σ : St} (k : IntKind) (a b : Int) : stepW P Γ f n Q (.bin .lss (.c (.int k a)) (.c (.int k b))) g l kk T σ = W P Γ f n Q (.ops l :: kk) (putT T g.d (.bool (decide (a < b)))) σ := by
 rw [stepW_pure (fun _ => rfl)]; simp [pureW, pureI, ev, binV, binInt, binStr, cutV, and_assoc]
theorem stepK_b_lss {σ : St} {K : V → St → Prop} (k : IntKind) (a b : Int) : stepK (.bin .lss (.c (.int k a)) (.c (.int k b))) σ K = K (.bool (decide (a < b))) σ := by
 rw [stepK_pure (fun _ => rfl)]; simp [pureK, pureI, ev, binV, binInt, binStr, cutV, and_assoc]
theorem stepW_b_leq {P : Program} {Γ : St} {f : FuncId} {n : Nat} {Q : V → St → Prop} {g : GI} {l : List GI} {kk : List It} {T : Ts} {σ : St} (k : IntKind) (a b : Int) : stepW P Γ f n Q (.bin .leq (.c (.int k a)) (.c (.int k b))) g l kk T σ = W P Γ f n Q (.ops l :: kk) (putT T g.d (.bool (decide (a ≤ b)))) σ := by
 rw [stepW_pure (fun _ => rfl)]; simp [pureW, pureI, ev, binV, binInt, binStr, cutV, and_assoc]
theorem stepK_b_leq {σ : St} {K : V → St → Prop} (k : IntKind) (a b : Int) : stepK (.bin .leq (.c (.int k a)) (.c (.int k b))) σ K = K (.bool (decide (a ≤ b))) σ := by
 rw [stepK_pure (fun _ => rfl)]; simp [pureK, pureI, ev, binV, binInt, binStr, cutV, and_assoc]
theorem stepW_b_gtr {P : Program} {Γ : St} {f : FuncId} {n : Nat} {Q : V → St → Prop} {g : GI} {l : List GI} {kk : List It} {T : Ts} {σ : St} (k : IntKind) (a b : Int) : stepW P Γ f n Q (.bin .gtr (.c (.int k a)) (.c (.int k b))) g l kk T σ = W P Γ f n Q (.ops l :: kk) (putT T g.d (.bool (decide (a > b)))) σ := by
 rw [stepW_pure (fun _ => rfl)]; simp [pureW, pureI, ev, binV, binInt, binStr, cutV, and_assoc]
theorem stepK_b_gtr {σ : St} {K : V → St → Prop} (k : IntKind) (a b : Int) : stepK (.bin .gtr (.c (.int k a)) (.c (.int k b))) σ K = K (.bool (decide (a > b))) σ := by
 rw [stepK_pure (fun _ => rfl)]; simp [pureK, pureI, ev, binV, binInt, binStr, cutV, and_assoc]
theorem stepW_b_geq {P : Program} {Γ : St} {f : FuncId} {n : Nat} {Q : V → St → Prop} {g : GI} {l : List GI} {kk : List It} {T : Ts} {σ : St} (k : IntKind) (a b : Int) : stepW P Γ f n Q (.bin .geq (.c (.int k a)) (.c (.int k b))) g l kk T σ = W P Γ f n Q (.ops l :: kk) (putT T g.d (.bool (decide (a ≥ b)))) σ := by
 rw [stepW_pure (fun _ => rfl)]; simp [pureW, pureI, ev, binV, binInt, binStr, cutV, and_assoc]
theorem stepK_b_geq {σ : St} {K : V → St → Prop} (k : IntKind) (a b : Int) : stepK (.bin .geq (.c (.int k a)) (.c (.int k b))) σ K = K (.bool (decide (a ≥ b))) σ := by
 rw [stepK_pure (fun _ => rfl)]; simp [pureK, pureI, ev, binV, binInt, binStr, cutV, and_assoc]
theorem stepW_b_shl {P : Program} {Γ : St} {f : FuncId} {n : Nat} {Q : V → St → Prop} {g : GI} {l : List GI} {kk : List It} {T : Ts} {σ : St} (k k' : IntKind) (a b : Int) : stepW P Γ f n Q (.bin .shl (.c (.int k a)) (.c (.int k' b))) g l kk T σ = (if 0 ≤ b then W P Γ f n Q (.ops l :: kk) (putT T g.d (.int k (k.wrap (a * 2 ^ min b.toNat k.bits)))) σ else False) := by
 rw [stepW_pure (fun _ => rfl)]; simp [pureW, pureI, ev, binV, binInt, binStr, cutV, and_assoc]
theorem stepK_b_shl {σ : St} {K : V → St → Prop} (k k' : IntKind) (a b : Int) : stepK (.bin .shl (.c (.int k a)) (.c (.int k' b))) σ K = (if 0 ≤ b then K (.int k (k.wrap (a * 2 ^ min b.toNat k.bits))) σ else False) := by
 rw [stepK_pure (fun _ => rfl)]; simp [pureK, pureI, ev, binV, binInt, binStr, cutV, and_assoc]
theorem stepW_b_shr {P : Program} {Γ : St} {f : FuncId} {n : Nat} {Q : V → St → Prop} {g : GI} {l : List GI} {kk : List It} {T : Ts} {σ : St} (k k' : IntKind) (a b : Int) : stepW P Γ f n Q (.bin .shr (.c (.int k a)) (.c (.int k' b))) g l kk T σ = (if 0 ≤ b then W P Γ f n Q (.ops l :: kk) (putT T g.d (.int k (a.fdiv (2 ^ min b.toNat k.bits)))) σ else False) := by
 rw [stepW_pure (fun _ => rfl)]; simp [pureW, pureI, ev, binV, binInt, binStr, cutV, and_assoc]
theorem stepK_b_shr {σ : St} {K : V → St → Prop} (k k' : IntKind) (a b : Int) : stepK (.bin .shr (.c (.int k a)) (.c (.int k' b))) σ K = (if 0 ≤ b then K (.int k (a.fdiv (2 ^ min b.toNat k.bits))) σ else False) := by
 rw [stepK_pure (fun _ => rfl)]; simp [pureK, pureI, ev, binV, binInt, binStr, cutV, and_assoc]
theorem stepW_s_add {P : Program} {Γ : St} {f : FuncId} {n : Nat} {Q : V → St → Prop} {g : GI} {l : List GI} {kk : List It} {T : Ts} {σ : St} (a b : List UInt8) : stepW P Γ f n Q (.bin .add (.c (.str a)) (.c (.str b))) g l kk T σ = (if a.length + b.length ≤ 140737488355328 then W P Γ f n Q (.ops l :: kk) (putT T g.d (.str (a ++ b))) σ else False) := by
 rw [stepW_pure (fun _ => rfl)]; simp [pureW, pureI, ev, binV, binInt, binStr, cutV, and_assoc]
theorem stepK_s_add {σ : St} {K : V → St → Prop} (a b : List UInt8) : stepK (.bin .add (.c (.str a)) (.c (.str b))) σ K = (if a.length + b.length ≤ 140737488355328 then K (.str (a ++ b)) σ else False) := by
 rw [stepK_pure (fun _ => rfl)]; simp [pureK, pureI, ev, binV, binInt, binStr, cutV, and_assoc]
theorem stepW_s_eql {P : Program} {Γ : St} {f : FuncId} {n : Nat} {Q : V → St → Prop} {g : GI} {l : List GI} {kk : List It} {T : Ts} {σ : St} (a b : List UInt8) : stepW P Γ f n Q (.bin .eql (.c (.str a)) (.c (.str b))) g l kk T σ = W P Γ f n Q (.ops l :: kk) (putT T g.d (.bool (a == b))) σ := by
 rw [stepW_pure (fun _ => rfl)]; simp [pureW, pureI, ev, binV, binInt, binStr, cutV, and_assoc]
theorem stepK_s_eql {σ : St} {K : V → St → Prop} (a b : List UInt8) : stepK (.bin .eql (.c (.str a)) (.c (.str b))) σ K = K (.bool (a == b)) σ := by
 rw [stepK_pure (fun _ => rfl)]; simp [pureK, pureI, ev, binV, binInt, binStr, cutV, and_assoc]
theorem stepW_s_neq {P : Program} {Γ : St} {f : FuncId} {n : Nat} {Q : V → St → Prop} {g : GI} {l : List GI} {kk : List It} {T : Ts} {σ : St} (a b : List UInt8) : stepW P Γ f n Q (.bin .neq (.c (.str a)) (.c (.str b))) g l kk T σ = W P Γ f n Q (.ops l :: kk) (putT T g.d (.bool (!(a == b)))) σ := by
 rw [stepW_pure (fun _ => rfl)]; simp [pureW, pureI, ev, binV, binInt, binStr, cutV, and_assoc]
theorem stepK_s_neq {σ : St} {K : V → St → Prop} (a b : List UInt8) : stepK (.bin .neq (.c (.str a)) (.c (.str b))) σ K = K (.bool (!(a == b))) σ := by
 rw [stepK_pure (fun _ => rfl)]; simp [pureK, pureI, ev, binV, binInt, binStr, cutV, and_assoc]
theorem stepW_s_lss {P : Program} {Γ : St} {f : FuncId} {n : Nat} {Q : V → St → Prop} {g : GI} {l : List GI} {kk : List It} {T : Ts} {σ : St} (a b : List UInt8) : stepW P Γ f n Q (.bin .lss (.c (.str a)) (.c (.str b))) g l kk T σ = W P Γ f n Q (.ops l :: kk) (putT T g.d (.bool (Op.bytesLess a b))) σ := by
 rw [stepW_pure (fun _ => rfl)]; simp [pureW, pureI, ev, binV, binInt, binStr, cutV, and_assoc]
theorem stepK_s_lss {σ : St} {K : V → St → Prop} (a b : List UInt8) : stepK (.bin .lss (.c (.str a)) (.c (.str b))) σ K = K (.bool (Op.bytesLess a b)) σ := by
 rw [stepK_pure (fun _ => rfl)]; simp [pureK, pureI, ev, binV, binInt, binStr, cutV, and_assoc]
theorem stepW_eqp_ptr {P : Program} {Γ : St} {f : FuncId} {n : Nat} {Q : V → St → Prop} {g : GI} {l : List GI} {kk : List It} {T : Ts} {σ : St} (neg : Bool) (b o : Nat) : stepW P Γ f n Q (.eqp neg (.c (.ptr b o)) (.c .nilptr)) g l kk T σ = W P Γ f n Q (.ops l :: kk) (putT T g.d (.bool neg)) σ := by
 rw [stepW_pure (fun _ => rfl)]; simp [pureW, pureI, ev, binV, binInt, binStr, cutV, and_assoc]
theorem stepK_eqp_ptr {σ : St} {K : V → St → Prop} (neg : Bool) (b o : Nat) : stepK (.eqp neg (.c (.ptr b o)) (.c .nilptr)) σ K = K (.bool neg) σ := by
 rw [stepK_pure (fun _ => rfl)]; simp [pureK, pureI, ev, binV, binInt, binStr, cutV, and_assoc]
theorem stepW_eqp_iptr {P : Program} {Γ : St} {f : FuncId} {n : Nat} {Q : V → St → Prop} {g : GI} {l : List GI} {kk : List It} {T : Ts} {σ : St} (neg : Bool) (cs : List V) : stepW P Γ f n Q (.eqp neg (.c (.iptr cs)) (.c .nilptr)) g l kk T σ = W P Γ f n Q (.ops l :: kk) (putT T g.d (.bool neg)) σ := by
 rw [stepW_pure (fun _ => rfl)]; simp [pureW, pureI, ev, binV, binInt, binStr, cutV, and_assoc]
theorem stepK_eqp_iptr {σ : St} {K : V → St → Prop} (neg : Bool) (cs : List V) : stepK (.eqp neg (.c (.iptr cs)) (.c .nilptr)) σ K = K (.bool neg) σ := by
 rw [stepK_pure (fun _ => rfl)]; simp [pureK, pureI, ev, binV, binInt, binStr, cutV, and_assoc]
theorem stepW_eqp_nil {P : Program} {Γ : St} {f : FuncId} {n : Nat} {Q : V → St → Prop} {g : GI} {l : List GI} {kk : List It} {T : Ts} {σ : St} (neg : Bool) : stepW P Γ f n Q (.eqp neg (.c .nilptr) (.c .nilptr)) g l kk T σ = W P Γ f n Q (.ops l :: kk) (putT T g.d (.bool !neg)) σ := by
 rw [stepW_pure (fun _ => rfl)]; simp [pureW, pureI, ev, binV, binInt, binStr, cutV, and_assoc]
theorem stepK_eqp_nil {σ : St} {K : V → St → Prop} (neg : Bool) : stepK (.eqp neg (.c .nilptr) (.c .nilptr)) σ K = K (.bool !neg) σ := by
 rw [stepK_pure (fun _ => rfl)]; simp [pureK, pureI, ev, binV, binInt, binStr, cutV, and_assoc]
theorem stepW_neg {P : Program} {Γ : St} {f : FuncId} {n : Nat} {Q : V → St → Prop} {g : GI} {l : List GI} {kk : List It} {T : Ts} {σ : St} (k : IntKind) (a : Int) : stepW P Γ f n Q (.un .neg (.c (.int k a))) g l kk T σ = W P Γ f n Q (.ops l :: kk) (putT T g.d (.int k (k.wrap (0 - a)))) σ := by
 rw [stepW_pure (fun _ => rfl)]; simp [pureW, pureI, ev, binV, binInt, binStr, cutV, and_assoc]
theorem stepK_neg {σ : St} {K : V → St → Prop} (k : IntKind) (a : Int) : stepK (.un .neg (.c (.int k a))) σ K = K (.int k (k.wrap (0 - a))) σ := by
 rw [stepK_pure (fun _ => rfl)]; simp [pureK, pureI, ev, binV, binInt, binStr, cutV, and_assoc]
theorem stepW_not {P : Program} {Γ : St} {f : FuncId} {n : Nat} {Q : V → St → Prop} {g : GI} {l : List GI} {kk : List It} {T : Ts} {σ : St} (b : Bool) : stepW P Γ f n Q (.un .not (.c (.bool b))) g l kk T σ = W P Γ f n Q (.ops l :: kk) (putT T g.d (.bool (!b))) σ := by
 rw [stepW_pure (fun _ => rfl)]; simp [pureW, pureI, ev, binV, binInt, binStr, cutV, and_assoc]
theorem stepK_not {σ : St} {K : V → St → Prop} (b : Bool) : stepK (.un .not (.c (.bool b))) σ K = K (.bool (!b)) σ := by
 rw [stepK_pure (fun _ => rfl)]; simp [pureK, pureI, ev, binV, binInt, binStr, cutV, and_assoc]
theorem stepW_sl_inn {P : Program} {Γ : St} {f : FuncId} {n : Nat} {Q : V → St → Prop} {g : GI} {l : List GI} {kk : List It} {T : Ts} {σ : St} (ex : Bool) (es : Nat) (xs : List V) : stepW P Γ f n Q (.sl es (.c (.isl ex es xs)) none none none) g l kk T σ = (if 0 ≤ (0 : Int) then if (0 : Int) ≤ (xs.length : Int) then if (xs.length : Int) ≤ xs.length then W P Γ f n Q (.ops l :: kk) (putT T g.d (.isl (ex && decide ((xs.length : Int) = xs.length)) es ((xs.drop (0 : Int).toNat).take ((xs.length : Int) - 0 : Int).toNat))) σ else False else False else False) := by
 rw [stepW_pure (fun _ => rfl)]; simp [pureW, pureI, ev, binV, binInt, binStr, cutV, and_assoc]
theorem stepK_sl_inn {σ : St} {K : V → St → Prop} (ex : Bool) (es : Nat) (xs : List V) : stepK (.sl es (.c (.isl ex es xs)) none none none) σ K = (if 0 ≤ (0 : Int) then if (0 : Int) ≤ (xs.length : Int) then if (xs.length : Int) ≤ xs.length then K (.isl (ex && decide ((xs.length : Int) = xs.length)) es ((xs.drop (0 : Int).toNat).take ((xs.length : Int) - 0 : Int).toNat)) σ else False else False else False) := by
 rw [stepK_pure (fun _ => rfl)]; simp [pureK, pureI, ev, binV, binInt, binStr, cutV, and_assoc]
theorem stepW_sl_mnn {P : Program} {Γ : St} {f : FuncId} {n : Nat} {Q : V → St → Prop} {g : GI} {l : List GI} {kk : List It} {T : Ts} {σ : St} (es b0 off len cap : Nat) : stepW P Γ f n Q (.sl es (.c (.msl b0 es off len cap)) none none none) g l kk T σ = (if 0 ≤ (0 : Int) then if (0 : Int) ≤ (len : Int) then if (len : Int) ≤ (cap : Int) then W P Γ f n Q (.ops l :: kk) (putT T g.d (.msl b0 es (if (cap : Int) = 0 then off else off + (0 : Int).toNat * es) ((len : Int) - 0 : Int).toNat (cap - 0 : Int).toNat)) σ else False else False else False) := by
 rw [stepW_pure (fun _ => rfl)]; simp [pureW, pureI, ev, binV, binInt, binStr, cutV, and_assoc]
theorem stepK_sl_mnn {σ : St} {K : V → St → Prop} (es b0 off len cap : Nat) : stepK (.sl es (.c (.msl b0 es off len cap)) none none none) σ K = (if 0 ≤ (0 : Int) then if (0 : Int) ≤ (len : Int) then if (len : Int) ≤ (cap : Int) then K (.msl b0 es (if (cap : Int) = 0 then off else off + (0 : Int).toNat * es) ((len : Int) - 0 : Int).toNat (cap - 0 : Int).toNat) σ else False else False else False) := by
 rw [stepK_pure (fun _ => rfl)]; simp [pureK, pureI, ev, binV, binInt, binStr, cutV, and_assoc]
theorem stepW_sls_nn {P : Program} {Γ : St} {f : FuncId} {n : Nat} {Q : V → St → Prop} {g : GI} {l : List GI} {kk : List It} {T : Ts} {σ : St} (s : List UInt8) : stepW P Γ f n Q (.sls (.c (.str s)) none none) g l kk T σ = (if 0 ≤ (0 : Int) then if (0 : Int) ≤ (s.length : Int) then if (s.length : Int) ≤ (s.length : Int) then W P Γ f n Q (.ops l :: kk) (putT T g.d (.str ((s.drop (0 : Int).toNat).take ((s.length : Int) - 0 : Int).toNat))) σ else False else False else False) := by
 rw [stepW_pure (fun _ => rfl)]; simp [pureW, pureI, ev, binV, binInt, binStr, cutV, and_assoc]
theorem stepK_sls_nn {σ : St} {K : V → St → Prop} (s : List UInt8) : stepK (.sls (.c (.str s)) none none) σ K = (if 0 ≤ (0 : Int) then if (0 : Int) ≤ (s.length : Int) then if (s.length : Int) ≤ (s.length : Int) then K (.str ((s.drop (0 : Int).toNat).take ((s.length : Int) - 0 : Int).toNat)) σ else False else False else False) := by
 rw [stepK_pure (fun _ => rfl)]; simp [pureK, pureI, ev, binV, binInt, binStr, cutV, and_assoc]
theorem stepW_sl_isn {P : Program} {Γ : St} {f : FuncId} {n : Nat} {Q : V → St → Prop} {g : GI} {l : List GI} {kk : List It} {T : Ts} {σ : St} (ex : Bool) (es : Nat) (xs : List V) (k1 : IntKind) (a : Int) : stepW P Γ f n Q (.sl es (.c (.isl ex es xs)) (some (.c (.int k1 a))) none none) g l kk T σ = (if 0 ≤ a then if a ≤ (xs.length : Int) then if (xs.length : Int) ≤ xs.length then W P Γ f n Q (.ops l :: kk) (putT T g.d (.isl (ex && decide ((xs.length : Int) = xs.length)) es ((xs.drop (a : Int).toNat).take ((xs.length : Int) - a : Int).toNat))) σ else False else False else False) := by
 rw [stepW_pure (fun _ => rfl)]; simp [pureW, pureI, ev, binV, binInt, binStr, cutV, and_assoc]
theorem stepK_sl_isn {σ : St} {K : V → St → Prop} (ex : Bool) (es : Nat) (xs : List V) (k1 : IntKind) (a : Int) : stepK (.sl es (.c (.isl ex es xs)) (some (.c (.int k1 a))) none none) σ K = (if 0 ≤ a then if a ≤ (xs.length : Int) then if (xs.length : Int) ≤ xs.length then K (.isl (ex && decide ((xs.length : Int) = xs.length)) es ((xs.drop (a : Int).toNat).take ((xs.length : Int) - a : Int).toNat)) σ else False else False else False) := by
 rw [stepK_pure (fun _ => rfl)]; simp [pureK, pureI, ev, binV, binInt, binStr, cutV, and_assoc]
theorem stepW_sl_msn {P : Program} {Γ : St} {f : FuncId} {n : Nat} {Q : V → St → Prop} {g : GI} {l : List GI} {kk : List It} {T : Ts} {σ : St} (es b0 off len cap : Nat) (k1 : IntKind) (a : Int) : stepW P Γ f n Q (.sl es (.c (.msl b0 es off len cap)) (some (.c (.int k1 a))) none none) g l kk T σ = (if 0 ≤ (a : Int) then if (a : Int) ≤ (len : Int) then if (len : Int) ≤ (cap : Int) then W P Γ f n Q (.ops l :: kk) (putT T g.d (.msl b0 es (if (cap : Int) = a then off else off + (a : Int).toNat * es) ((len : Int) - a : Int).toNat (cap - a : Int).toNat)) σ else False else False else False) := by
 rw [stepW_pure (fun _ => rfl)]; simp [pureW, pureI, ev, binV, binInt, binStr, cutV, and_assoc]
theorem stepK_sl_msn {σ : St} {K : V → St → Prop} (es b0 off len cap : Nat) (k1 : IntKind) (a : Int) : stepK (.sl es (.c (.msl b0 es off len cap)) (some (.c (.int k1 a))) none none) σ K = (if 0 ≤ (a : Int) then if (a : Int) ≤ (len : Int) then if (len : Int) ≤ (cap : Int) then K (.msl b0 es (if (cap : Int) = a then off else off + (a : Int).toNat * es) ((len : Int) - a : Int).toNat (cap - a : Int).toNat) σ else False else False else False) := by
 rw [stepK_pure (fun _ => rfl)]; simp [pureK, pureI, ev, binV, binInt, binStr, cutV, and_assoc]
theorem stepW_sls_sn {P : Program} {Γ : St} {f : FuncId} {n : Nat} {Q : V → St → Prop} {g : GI} {l : List GI} {kk : List It} {T : Ts} {σ : St} (s : List UInt8) (k1 : IntKind) (a : Int) : stepW P Γ f n Q (.sls (.c (.str s)) (some (.c (.int k1 a))) none) g l kk T σ = (if 0 ≤ (a : Int) then if (a : Int) ≤ (s.length : Int) then if (s.length : Int) ≤ (s.length : Int) then W P Γ f n Q (.ops l :: kk) (putT T g.d (.str ((s.drop (a : Int).toNat).take ((s.length : Int) - a : Int).toNat))) σ else False else False else False) := by
 rw [stepW_pure (fun _ => rfl)]; simp [pureW, pureI, ev, binV, binInt, binStr, cutV, and_assoc]
theorem stepK_sls_sn {σ : St} {K : V → St → Prop} (s : List UInt8) (k1 : IntKind) (a : Int) : stepK (.sls (.c (.str s)) (some (.c (.int k1 a))) none) σ K = (if 0 ≤ (a : Int) then if (a : Int) ≤ (s.length : Int) then if (s.length : Int) ≤ (s.length : Int) then K (.str ((s.drop (a : Int).toNat).take ((s.length : Int) - a : Int).toNat)) σ else False else False else False) := by
 rw [stepK_pure (fun _ => rfl)]; simp [pureK, pureI, ev, binV, binInt, binStr, cutV, and_assoc]
theorem stepW_sl_ins {P : Program} {Γ : St} {f : FuncId} {n : Nat} {Q : V → St → Prop} {g : GI} {l : List GI} {kk : List It} {T : Ts} {σ : St} (ex : Bool) (es : Nat) (xs : List V) (k2 : IntKind) (b : Int) : stepW P Γ f n Q (.sl es (.c (.isl ex es xs)) none (some (.c (.int k2 b))) none) g l kk T σ = (if 0 ≤ (0 : Int) then if (0 : Int) ≤ b then if b ≤ xs.length then W P Γ f n Q (.ops l :: kk) (putT T g.d (.isl (ex && decide (b = xs.length)) es ((xs.drop (0 : Int).toNat).take (b - 0 : Int).toNat))) σ else False else False else False) := by
 rw [stepW_pure (fun _ => rfl)]; simp [pureW, pureI, ev, binV, binInt, binStr, cutV, and_assoc]
theorem stepK_sl_ins {σ : St} {K : V → St → Prop} (ex : Bool) (es : Nat) (xs : List V) (k2 : IntKind) (b : Int) : stepK (.sl es (.c (.isl ex es xs)) none (some (.c (.int k2 b))) none) σ K = (if 0 ≤ (0 : Int) then if (0 : Int) ≤ b then if b ≤ xs.length then K (.isl (ex && decide (b = xs.length)) es ((xs.drop (0 : Int).toNat).take (b - 0 : Int).toNat)) σ else False else False else False) := by
 rw [stepK_pure (fun _ => rfl)]; simp [pureK, pureI, ev, binV, binInt, binStr, cutV, and_assoc]
theorem stepW_sl_mns {P : Program} {Γ : St} {f : FuncId} {n : Nat} {Q : V → St → Prop} {g : GI} {l : List GI} {kk : List It} {T : Ts} {σ : St} (es b0 off len cap : Nat) (k2 : IntKind) (b : Int) : stepW P Γ f n Q (.sl es (.c (.msl b0 es off len cap)) none (some (.c (.int k2 b))) none) g l kk T σ = (if 0 ≤ (0 : Int) then if (0 : Int) ≤ b then if b ≤ (cap : Int) then W P Γ f n Q (.ops l :: kk) (putT T g.d (.msl b0 es (if (cap : Int) = 0 then off else off + (0 : Int).toNat * es) (b - 0 : Int).toNat (cap - 0 : Int).toNat)) σ else False else False else False) := by
 rw [stepW_pure (fun _ => rfl)]; simp [pureW, pureI, ev, binV, binInt, binStr, cutV, and_assoc]
theorem stepK_sl_mns {σ : St} {K : V → St → Prop} (es b0 off len cap : Nat) (k2 : IntKind) (b : Int) : stepK (.sl es (.c (.msl b0 es off len cap)) none (some (.c (.int k2 b))) none) σ K = (if 0 ≤ (0 : Int) then if (0 : Int) ≤ b then if b ≤ (cap : Int) then K (.msl b0 es (if (cap : Int) = 0 then off else off + (0 : Int).toNat * es) (b - 0 : Int).toNat (cap - 0 : Int).toNat) σ else False else False else False) := by
 rw [stepK_pure (fun _ => rfl)]; simp [pureK, pureI, ev, binV, binInt, binStr, cutV, and_assoc]
theorem stepW_sls_ns {P : Program} {Γ : St} {f : FuncId} {n : Nat} {Q : V → St → Prop} {g : GI} {l : List GI} {kk : List It} {T : Ts} {σ : St} (s : List UInt8) (k2 : IntKind) (b : Int) : stepW P Γ f n Q (.sls (.c (.str s)) none (some (.c (.int k2 b)))) g l kk T σ = (if 0 ≤ (0 : Int) then if (0 : Int) ≤ b then if b ≤ (s.length : Int) then W P Γ f n Q (.ops l :: kk) (putT T g.d (.str ((s.drop (0 : Int).toNat).take (b - 0 : Int).toNat))) σ else False else False else False) := by
 rw [stepW_pure (fun _ => rfl)]; simp [pureW, pureI, ev, binV, binInt, binStr, cutV, and_assoc]
theorem stepK_sls_ns {σ : St} {K : V → St → Prop} (s : List UInt8) (k2 : IntKind) (b : Int) : stepK (.sls (.c (.str s)) none (some (.c (.int k2 b)))) σ K = (if 0 ≤ (0 : Int) then if (0 : Int) ≤ b then if b ≤ (s.length : Int) then K (.str ((s.drop (0 : Int).toNat).take (b - 0 : Int).toNat)) σ else False else False else False) := by
 rw [stepK_pure (fun _ => rfl)]; simp [pureK, pureI, ev, binV, binInt, binStr, cutV, and_assoc]
theorem stepW_sl_iss {P : Program} {Γ : St} {f : FuncId} {n : Nat} {Q : V → St → Prop} {g : GI} {l : List GI} {kk : List It} {T : Ts} {σ : St} (ex : Bool) (es : Nat) (xs : List V) (k1 : IntKind) (a : Int) (k2 : IntKind) (b : Int) : stepW P Γ f n Q (.sl es (.c (.isl ex es xs)) (some (.c (.int k1 a))) (some (.c (.int k2 b))) none) g l kk T σ = (if 0 ≤ a then if a ≤ b then if b ≤ xs.length then W P Γ f n Q (.ops l :: kk) (putT T g.d (.isl (ex && decide (b = xs.length)) es ((xs.drop (a : Int).toNat).take (b - a : Int).toNat))) σ else False else False else False) := by
 rw [stepW_pure (fun _ => rfl)]; simp [pureW, pureI, ev, binV, binInt, binStr, cutV, and_assoc]
theorem stepK_sl_iss {σ : St} {K : V → St → Prop} (ex : Bool) (es : Nat) (xs : List V) (k1 : IntKind) (a : Int) (k2 : IntKind) (b : Int) : stepK (.sl es (.c (.isl ex es xs)) (some (.c (.int k1 a))) (some (.c (.int k2 b))) none) σ K = (if 0 ≤ a then if a ≤ b then if b ≤ xs.length then K (.isl (ex && decide (b = xs.length)) es ((xs.drop (a : Int).toNat).take (b - a : Int).toNat)) σ else False else False else False) := by
 rw [stepK_pure (fun _ => rfl)]; simp [pureK, pureI, ev, binV, binInt, binStr, cutV, and_assoc]
theorem stepW_sl_mss {P : Program} {Γ : St} {f : FuncId} {n : Nat} {Q : V → St → Prop} {g : GI} {l : List GI} {kk : List It} {T : Ts} {σ : St} (es b0 off len cap : Nat) (k1 : IntKind) (a : Int) (k2 : IntKind) (b : Int) : stepW P Γ f n Q (.sl es (.c (.msl b0 es off len cap)) (some (.c (.int k1 a))) (some (.c (.int k2 b))) none) g l kk T σ = (if 0 ≤ (a : Int) then if (a : Int) ≤ b then if b ≤ (cap : Int) then W P Γ f n Q (.ops l :: kk) (putT T g.d (.msl b0 es (if (cap : Int) = a then off else off + (a : Int).toNat * es) (b - a : Int).toNat (cap - a : Int).toNat)) σ else False else False else False) := by
 rw [stepW_pure (fun _ => rfl)]; simp [pureW, pureI, ev, binV, binInt, binStr, cutV, and_assoc]
theorem stepK_sl_mss {σ : St} {K : V → St → Prop} (es b0 off len cap : Nat) (k1 : IntKind) (a : Int) (k2 : IntKind) (b : Int) : stepK (.sl es (.c (.msl b0 es off len cap)) (some (.c (.int k1 a))) (some (.c (.int k2 b))) none) σ K = (if 0 ≤ (a : Int) then if (a : Int) ≤ b then if b ≤ (cap : Int) then K (.msl b0 es (if (cap : Int) = a then off else off + (a : Int).toNat * es) (b - a : Int).toNat (cap - a : Int).toNat) σ else False else False else False) := by
 rw [stepK_pure (fun _ => rfl)]; simp [pureK, pureI, ev, binV, binInt, binStr, cutV, and_assoc]
theorem stepW_sls_ss {P : Program} {Γ : St} {f : FuncId} {n : Nat} {Q : V → St → Prop} {g : GI} {l : List GI} {kk : List It} {T : Ts} {σ : St} (s : List UInt8) (k1 : IntKind) (a : Int) (k2 : IntKind) (b : Int) : stepW P Γ f n Q (.sls (.c (.str s)) (some (.c (.int k1 a))) (some (.c (.int k2 b)))) g l kk T σ = (if 0 ≤ (a : Int) then if (a : Int) ≤ b then if b ≤ (s.length : Int) then W P Γ f n Q (.ops l :: kk) (putT T g.d (.str ((s.drop (a : Int).toNat).take (b - a : Int).toNat))) σ else False else False else False) := by
 rw [stepW_pure (fun _ => rfl)]; simp [pureW, pureI, ev, binV, binInt, binStr, cutV, and_assoc]
theorem stepK_sls_ss {σ : St} {K : V → St → Prop} (s : List UInt8) (k1 : IntKind) (a : Int) (k2 : IntKind) (b : Int) : stepK (.sls (.c (.str s)) (some (.c (.int k1 a))) (some (.c (.int k2 b)))) σ K = (if 0 ≤ (a : Int) then if (a : Int) ≤ b then if b ≤ (s.length : Int) then K (.str ((s.drop (a : Int).toNat).take (b - a : Int).toNat)) σ else False else False else False) := by
 rw [stepK_pure (fun _ => rfl)]; simp [pureK, pureI, ev, binV, binInt, binStr, cutV, and_assoc]
theorem stepW_sl_i3 {P : Program} {Γ : St} {f : FuncId} {n : Nat} {Q : V → St → Prop} {g : GI} {l : List GI} {kk : List It} {T : Ts} {σ : St} (ex : Bool) (es : Nat) (xs : List V) (k1 k2 k3 : IntKind) (a b c : Int) : stepW P Γ f n Q (.sl es (.c (.isl ex es xs)) (some (.c (.int k1 a))) (some (.c (.int k2 b))) (some (.c (.int k3 c)))) g l kk T σ = (if 0 ≤ a then if a ≤ b then if b ≤ c then if c ≤ xs.length then W P Γ f n Q (.ops l :: kk) (putT T g.d (.isl (decide (b = c)) es ((xs.drop a.toNat).take (b - a).toNat))) σ else False else False else False else False) := by
 rw [stepW_pure (fun _ => rfl)]; simp [pureW, pureI, ev, binV, binInt, binStr, cutV, and_assoc]
theorem stepK_sl_i3 {σ : St} {K : V → St → Prop} (ex : Bool) (es : Nat) (xs : List V) (k1 k2 k3 : IntKind) (a b c : Int) : stepK (.sl es (.c (.isl ex es xs)) (some (.c (.int k1 a))) (some (.c (.int k2 b))) (some (.c (.int k3 c)))) σ K = (if 0 ≤ a then if a ≤ b then if b ≤ c then if c ≤ xs.length then K (.isl (decide (b = c)) es ((xs.drop a.toNat).take (b - a).toNat)) σ else False else False else False else False) := by
 rw [stepK_pure (fun _ => rfl)]; simp [pureK, pureI, ev, binV, binInt, binStr, cutV, and_assoc]
theorem stepW_sl_i0 {P : Program} {Γ : St} {f : FuncId} {n : Nat} {Q : V → St → Prop} {g : GI} {l : List GI} {kk : List It} {T : Ts} {σ : St} (ex : Bool) (es es2 : Nat) (k1 k2 k3 : IntKind) : stepW P Γ f n Q (.sl es (.c (.isl ex es2 [])) (some (.c (.int k1 0))) (some (.c (.int k2 0))) (some (.c (.int k3 0)))) g l kk T σ = W P Γ f n Q (.ops l :: kk) (putT T g.d (.isl true es2 [])) σ := by
 rw [stepW_pure (fun _ => rfl)]; simp [pureW, pureI, ev, binV, binInt, binStr, cutV, and_assoc]
theorem stepK_sl_i0 {σ : St} {K : V → St → Prop} (ex : Bool) (es es2 : Nat) (k1 k2 k3 : IntKind) : stepK (.sl es (.c (.isl ex es2 [])) (some (.c (.int k1 0))) (some (.c (.int k2 0))) (some (.c (.int k3 0)))) σ K = K (.isl true es2 []) σ := by
 rw [stepK_pure (fun _ => rfl)]; simp [pureK, pureI, ev, binV, binInt, binStr, cutV, and_assoc]
theorem stepW_sl_m3 {P : Program} {Γ : St} {f : FuncId} {n : Nat} {Q : V → St → Prop} {g : GI} {l : List GI} {kk : List It} {T : Ts} {σ : St} (es b0 off len cap : Nat) (k1 k2 k3 : IntKind) (a b c : Int) : stepW P Γ f n Q (.sl es (.c (.msl b0 es off len cap)) (some (.c (.int k1 a))) (some (.c (.int k2 b))) (some (.c (.int k3 c)))) g l kk T σ = (if 0 ≤ a then if a ≤ b then if b ≤ c then if c ≤ (cap : Int) then W P Γ f n Q (.ops l :: kk) (putT T g.d (.msl b0 es (if c = a then off else off + a.toNat * es) (b - a).toNat (c - a).toNat)) σ else False else False else False else False) := by
 rw [stepW_pure (fun _ => rfl)]; simp [pureW, pureI, ev, binV, binInt, binStr, cutV, and_assoc]
theorem stepK_sl_m3 {σ : St} {K : V → St → Prop} (es b0 off len cap : Nat) (k1 k2 k3 : IntKind) (a b c : Int) : stepK (.sl es (.c (.msl b0 es off len cap)) (some (.c (.int k1 a))) (some (.c (.int k2 b))) (some (.c (.int k3 c)))) σ K = (if 0 ≤ a then if a ≤ b then if b ≤ c then if c ≤ (cap : Int) then K (.msl b0 es (if c = a then off else off + a.toNat * es) (b - a).toNat (c - a).toNat) σ else False else False else False else False) := by
 rw [stepK_pure (fun _ => rfl)]; simp [pureK, pureI, ev, binV, binInt, binStr, cutV, and_assoc]
theorem stepW_fieldA {P : Program} {Γ : St} {f : FuncId} {n : Nat} {Q : V → St → Prop} {g : GI} {l : List GI} {kk : List It} {T : Ts} {σ : St} (off m : Nat) (cs : List V) : stepW P Γ f n Q (.field true off m (.c (.agg cs))) g l kk T σ = (if off + m ≤ cs.length then W P Γ f n Q (.ops l :: kk) (putT T g.d (.agg ((cs.drop off).take m))) σ else False) := by
 rw [stepW_pure (fun _ => rfl)]; simp [pureW, pureI, ev, binV, binInt, binStr, cutV, and_assoc]
theorem stepK_fieldA {σ : St} {K : V → St → Prop} (off m : Nat) (cs : List V) : stepK (.field true off m (.c (.agg cs))) σ K = (if off + m ≤ cs.length then K (.agg ((cs.drop off).take m)) σ else False) := by
 rw [stepK_pure (fun _ => rfl)]; simp [pureK, pureI, ev, binV, binInt, binStr, cutV, and_assoc]
theorem stepW_field1 {P : Program} {Γ : St} {f : FuncId} {n : Nat} {Q : V → St → Prop} {g : GI} {l : List GI} {kk : List It} {T : Ts} {σ : St} (off : Nat) (cs : List V) : stepW P Γ f n Q (.field false off 1 (.c (.agg cs))) g l kk T σ = (if off + 1 ≤ cs.length then W P Γ f n Q (.ops l :: kk) (putT T g.d (cs.getD off .undef)) σ else False) := by
 rw [stepW_pure (fun _ => rfl)]; simp [pureW, pureI, ev, binV, binInt, binStr, cutV, and_assoc]
theorem stepK_field1 {σ : St} {K : V → St → Prop} (off : Nat) (cs : List V) : stepK (.field false off 1 (.c (.agg cs))) σ K = (if off + 1 ≤ cs.length then K (cs.getD off .undef) σ else False) := by
 rw [stepK_pure (fun _ => rfl)]; simp [pureK, pureI, ev, binV, binInt, binStr, cutV, and_assoc]
theorem stepW_iaddrA_p {P : Program} {Γ : St} {f : FuncId} {n : Nat} {Q : V → St → Prop} {g : GI} {l : List GI} {kk : List It} {T : Ts} {σ : St} (es m b off : Nat) (k : IntKind) (a : Int) : stepW P Γ f n Q (.iaddrA es m (.c (.ptr b off)) (.c (.int k a))) g l kk T σ = (if 0 ≤ a then if a < m then W P Γ f n Q (.ops l :: kk) (putT T g.d (.ptr b (off + a.toNat * es))) σ else False else False) := by
 rw [stepW_pure (fun _ => rfl)]; simp [pureW, pureI, ev, binV, binInt, binStr, cutV, and_assoc]
theorem stepK_iaddrA_p {σ : St} {K : V → St → Prop} (es m b off : Nat) (k : IntKind) (a : Int) : stepK (.iaddrA es m (.c (.ptr b off)) (.c (.int k a))) σ K = (if 0 ≤ a then if a < m then K (.ptr b (off + a.toNat * es)) σ else False else False) := by
 rw [stepK_pure (fun _ => rfl)]; simp [pureK, pureI, ev, binV, binInt, binStr, cutV, and_assoc]
theorem stepW_iaddrA_i {P : Program} {Γ : St} {f : FuncId} {n : Nat} {Q : V → St → Prop} {g : GI} {l : List GI} {kk : List It} {T : Ts} {σ : St} (es m : Nat) (cs : List V) (k : IntKind) (a : Int) : stepW P Γ f n Q (.iaddrA es m (.c (.iptr cs)) (.c (.int k a))) g l kk T σ = (if 0 ≤ a then if a < m then W P Γ f n Q (.ops l :: kk) (putT T g.d (.iptr (cs.drop (a.toNat * es)))) σ else False else False) := by
 rw [stepW_pure (fun _ => rfl)]; simp [pureW, pureI, ev, binV, binInt, binStr, cutV, and_assoc]
theorem stepK_iaddrA_i {σ : St} {K : V → St → Prop} (es m : Nat) (cs : List V) (k : IntKind) (a : Int) : stepK (.iaddrA es m (.c (.iptr cs)) (.c (.int k a))) σ K = (if 0 ≤ a then if a < m then K (.iptr (cs.drop (a.toNat * es))) σ else False else False) := by
 rw [stepK_pure (fun _ => rfl)]; simp [pureK, pureI, ev, binV, binInt, binStr, cutV, and_assoc]
theorem stepW_cap_m {P : Program} {Γ : St} {f : FuncId} {n : Nat} {Q : V → St → Prop} {g : GI} {l : List GI} {kk : List It} {T : Ts} {σ : St} (b es off len cap : Nat) : stepW P Γ f n Q (.cap (.c (.msl b es off len cap))) g l kk T σ = W P Γ f n Q (.ops l :: kk) (putT T g.d (.int .i64 cap)) σ := by
 rw [stepW_pure (fun _ => rfl)]; simp [pureW, pureI, ev, binV, binInt, binStr, cutV, and_assoc]
theorem stepK_cap_m {σ : St} {K : V → St → Prop} (b es off len cap : Nat) : stepK (.cap (.c (.msl b es off len cap))) σ K = K (.int .i64 cap) σ := by
 rw [stepK_pure (fun _ => rfl)]; simp [pureK, pureI, ev, binV, binInt, binStr, cutV, and_assoc]
theorem stepW_cap_i {P : Program} {Γ : St} {f : FuncId} {n : Nat} {Q : V → St → Prop} {g : GI} {l : List GI} {kk : List It} {T : Ts} {σ : St} (es : Nat) (xs : List V) : stepW P Γ f n Q (.cap (.c (.isl true es xs))) g l kk T σ = W P Γ f n Q (.ops l :: kk) (putT T g.d (.int .i64 xs.length)) σ := by
 rw [stepW_pure (fun _ => rfl)]; simp [pureW, pureI, ev, binV, binInt, binStr, cutV, and_assoc]
theorem stepK_cap_i {σ : St} {K : V → St → Prop} (es : Nat) (xs : List V) : stepK (.cap (.c (.isl true es xs))) σ K = K (.int .i64 xs.length) σ := by
 rw [stepK_pure (fun _ => rfl)]; simp [pureK, pureI, ev, binV, binInt, binStr, cutV, and_assoc]
theorem cells_bool (b : Bool) : V.cells (.bool b : V) = [(.bool b)] := rfl
theorem one_bool (b : Bool) : V.one (.bool b : V) = true := rfl
theorem cells_int (k : IntKind) (a : Int) : V.cells (.int k a : V) = [(.int k a)] := rfl
theorem one_int (k : IntKind) (a : Int) : V.one (.int k a : V) = true := rfl
theorem cells_str (s : List UInt8) : V.cells (.str s : V) = [(.str s)] := rfl
theorem one_str (s : List UInt8) : V.one (.str s : V) = true := rfl
theorem cells_isl (ex : Bool) (es : Nat) (xs : List V) : V.cells (.isl ex es xs : V) = [(.isl ex es xs)] := rfl
theorem one_isl (ex : Bool) (es : Nat) (xs : List V) : V.one (.isl ex es xs : V) = true := rfl
theorem cells_msl (b es off len cap : Nat) : V.cells (.msl b es off len cap : V) = [(.msl b es off len cap)] := rfl
theorem one_msl (b es off len cap : Nat) : V.one (.msl b es off len cap : V) = true := rfl
theorem cells_ptr (b o : Nat) : V.cells (.ptr b o : V) = [(.ptr b o)] := rfl
theorem one_ptr (b o : Nat) : V.one (.ptr b o : V) = true := rfl
theorem cells_iptr (cs : List V) : V.cells (.iptr cs : V) = [(.iptr cs)] := rfl
theorem one_iptr (cs : List V) : V.one (.iptr cs : V) = true := rfl
theorem cells_nilptr  : V.cells (.nilptr : V) = [(.nilptr)] := rfl
theorem one_nilptr  : V.one (.nilptr : V) = true := rfl
theorem cells_fn (f : FuncId) (cs : List V) : V.cells (.fn f cs : V) = [(.fn f cs)] := rfl
theorem one_fn (f : FuncId) (cs : List V) : V.one (.fn f cs : V) = true := rfl
theorem cells_nilfn  : V.cells (.nilfn : V) = [(.nilfn)] := rfl
theorem one_nilfn  : V.one (.nilfn : V) = true := rfl
theorem cells_iface (t : TypeId) (v : V) : V.cells (.iface t v : V) = [(.iface t v)] := rfl
theorem one_iface (t : TypeId) (v : V) : V.one (.iface t v : V) = true := rfl
theorem cells_nilif  : V.cells (.nilif : V) = [(.nilif)] := rfl
theorem one_nilif  : V.one (.nilif : V) = true := rfl
theorem cells_agg (cs : List V) : V.cells (.agg cs) = cs := rfl
theorem sub_mv (e : Opd → V) (x : Opd) : I.sub e (.mv x) = .mv (.c (e x)) := rfl
theorem sub_pick (e : Opd → V) (c a b : Opd) : I.sub e (.pick c a b) = .pick (.c (e c)) (.c (e a)) (.c (e b)) := rfl
theorem sub_alloc (e : Opd → V) (z : List V) : I.sub e (.alloc z) = .alloc z := rfl
theorem sub_box (e : Opd → V) (n : Nat) (x : Opd) : I.sub e (.box n x) = .box n (.c (e x)) := rfl
theorem sub_build (e : Opd → V) (z : List V) (ps : List (Nat × Nat × Opd)) : I.sub e (.build z ps) = .build z (ps.map fun q => (q.1, q.2.1, .c (e q.2.2))) := rfl
theorem sub_bsl (e : Opd → V) (es n : Nat) (zv : V) (ps : List (Nat × Opd)) : I.sub e (.bsl es n zv ps) = .bsl es n zv (ps.map fun q => (q.1, .c (e q.2))) := rfl
theorem sub_load (e : Opd → V) (ag : Bool) (n : Nat) (a : Opd) : I.sub e (.load ag n a) = .load ag n (.c (e a)) := rfl
theorem sub_store (e : Opd → V) (n : Nat) (a x : Opd) : I.sub e (.store n a x) = .store n (.c (e a)) (.c (e x)) := rfl
theorem sub_nilck (e : Opd → V) (x : Opd) : I.sub e (.nilck x) = .nilck (.c (e x)) := rfl
theorem sub_bin (e : Opd → V) (op : BinOp) (x y : Opd) : I.sub e (.bin op x y) = .bin op (.c (e x)) (.c (e y)) := rfl
theorem sub_eqb (e : Opd → V) (neg : Bool) (x y : Opd) : I.sub e (.eqb neg x y) = .eqb neg (.c (e x)) (.c (e y)) := rfl
theorem sub_eqp (e : Opd → V) (neg : Bool) (x y : Opd) : I.sub e (.eqp neg x y) = .eqp neg (.c (e x)) (.c (e y)) := rfl
theorem sub_eqa (e : Opd → V) (neg : Bool) (ks : List Nat) (x y : Opd) : I.sub e (.eqa neg ks x y) = .eqa neg ks (.c (e x)) (.c (e y)) := rfl
theorem sub_eqs (e : Opd → V) (neg : Bool) (x : Opd) : I.sub e (.eqs neg x) = .eqs neg (.c (e x)) := rfl
theorem sub_un (e : Opd → V) (op : UnOp) (x : Opd) : I.sub e (.un op x) = .un op (.c (e x)) := rfl
theorem sub_i2i (e : Opd → V) (k : IntKind) (x : Opd) : I.sub e (.i2i k x) = .i2i k (.c (e x)) := rfl
theorem sub_b2s (e : Opd → V) (x : Opd) : I.sub e (.b2s x) = .b2s (.c (e x)) := rfl
theorem sub_s2b (e : Opd → V) (x : Opd) : I.sub e (.s2b x) = .s2b (.c (e x)) := rfl
theorem sub_mkfn (e : Opd → V) (f : FuncId) (caps : List Opd) : I.sub e (.mkfn f caps) = .mkfn f (caps.map fun x => .c (e x)) := rfl
theorem sub_mksl (e : Opd → V) (es bytes : Nat) (z : List V) (l c : Opd) : I.sub e (.mksl es bytes z l c) = .mksl es bytes z (.c (e l)) (.c (e c)) := rfl
theorem sub_sl (e : Opd → V) (es : Nat) (x : Opd) (lo hi m3 : Option Opd) : I.sub e (.sl es x lo hi m3) = .sl es (.c (e x)) (lo.map fun y => .c (e y)) (hi.map fun y => .c (e y)) (m3.map fun y => .c (e y)) := rfl
theorem sub_sls (e : Opd → V) (x : Opd) (lo hi : Option Opd) : I.sub e (.sls x lo hi) = .sls (.c (e x)) (lo.map fun y => .c (e y)) (hi.map fun y => .c (e y)) := rfl
theorem sub_sla (e : Opd → V) (n es : Nat) (x : Opd) : I.sub e (.sla n es x) = .sla n es (.c (e x)) := rfl
theorem sub_faddr (e : Opd → V) (off : Nat) (x : Opd) : I.sub e (.faddr off x) = .faddr off (.c (e x)) := rfl
theorem sub_field (e : Opd → V) (ag : Bool) (off n : Nat) (x : Opd) : I.sub e (.field ag off n x) = .field ag off n (.c (e x)) := rfl
theorem sub_iaddr (e : Opd → V) (es : Nat) (x i : Opd) : I.sub e (.iaddr es x i) = .iaddr es (.c (e x)) (.c (e i)) := rfl
theorem sub_iaddrA (e : Opd → V) (es m3 : Nat) (x i : Opd) : I.sub e (.iaddrA es m3 x i) = .iaddrA es m3 (.c (e x)) (.c (e i)) := rfl
theorem sub_idxs (e : Opd → V) (x i : Opd) : I.sub e (.idxs x i) = .idxs (.c (e x)) (.c (e i)) := rfl
theorem sub_idxA (e : Opd → V) (ag : Bool) (es m3 : Nat) (x i : Opd) : I.sub e (.idxA ag es m3 x i) = .idxA ag es m3 (.c (e x)) (.c (e i)) := rfl
theorem sub_ext (e : Opd → V) (x : Opd) (n : Nat) : I.sub e (.ext x n) = .ext (.c (e x)) n := rfl
theorem sub_len (e : Opd → V) (x : Opd) : I.sub e (.len x) = .len (.c (e x)) := rfl
theorem sub_lens (e : Opd → V) (x : Opd) : I.sub e (.lens x) = .lens (.c (e x)) := rfl
theorem sub_mx (e : Opd → V) (x y : Opd) : I.sub e (.mx x y) = .mx (.c (e x)) (.c (e y)) := rfl
theorem sub_mn (e : Opd → V) (x y : Opd) : I.sub e (.mn x y) = .mn (.c (e x)) (.c (e y)) := rfl
theorem sub_app (e : Opd → V) (es bytes : Nat) (s x : Opd) : I.sub e (.app es bytes s x) = .app es bytes (.c (e s)) (.c (e x)) := rfl
theorem sub_appz (e : Opd → V) (es bytes : Nat) (z : List V) (s n : Opd) : I.sub e (.appz es bytes z s n) = .appz es bytes z (.c (e s)) (.c (e n)) := rfl
theorem sub_copy (e : Opd → V) (es : Nat) (d s : Opd) : I.sub e (.copy es d s) = .copy es (.c (e d)) (.c (e s)) := rfl
theorem sub_clear (e : Opd → V) (es : Nat) (z : List V) (x : Opd) : I.sub e (.clear es z x) = .clear es z (.c (e x)) := rfl
theorem sub_cap (e : Opd → V) (x : Opd) : I.sub e (.cap x) = .cap (.c (e x)) := rfl
theorem sub_call (e : Opd → V) (f : Opd) (args : List Opd) : I.sub e (.call f args) = .call (.c (e f)) (args.map fun x => .c (e x)) := rfl
theorem ev_t (Γ : St) (T : Ts) (n : Nat) : ev Γ T (.t n) = look T n := rfl
theorem ev_c (Γ : St) (T : Ts) (v : V) : ev Γ T (.c v) = v := rfl
theorem ev_f (Γ : St) (T : Ts) (n : Nat) : ev Γ T (.f n) = .fn n [] := rfl
theorem look_cons (t : Nat) (v : V) (r : Ts) (n : Nat) : look ((t, v) :: r) n = if t = n then v else look r n := rfl
theorem look_nil (n : Nat) : look [] n = .undef := rfl
theorem putT_some (T : Ts) (t : Nat) (x : V) : putT T (some t) x = (t, x) :: T := rfl
theorem putT_none (T : Ts) (x : V) : putT T none x = T := rfl
attribute [go_sem] W_skip W_seq W_opsC W_block W_inB W_nil W_ite W_cons W_guard exitW_inB exitW_code exitW_ops exitW_inL iteW_true iteW_false guardW_tt guardW_ff guardW_tf guardW_ft guardW_un sub_mv sub_pick sub_alloc sub_box sub_build sub_bsl sub_load sub_store sub_nilck sub_bin sub_eqb sub_eqp sub_eqa sub_eqs sub_un sub_i2i sub_b2s sub_s2b sub_mkfn sub_mksl sub_sl sub_sls sub_sla sub_faddr sub_field sub_iaddr sub_iaddrA sub_idxs sub_idxA sub_ext sub_len sub_lens sub_mx sub_mn sub_app sub_appz sub_copy sub_clear sub_cap sub_call ev_t ev_c ev_f look_cons look_nil putT_some putT_none ev_cev argsT upd_same WD_nil WD_rd WD_store roD I.wri DR_nil DR_rd stepG_none stepG_some guardK_tt guardK_ff guardK_tf guardK_ft guardK_un fillV fillOK rowV rowOK sets
attribute [go_sem] stepW_mv stepW_pick stepW_build stepW_bsl stepW_nilck_ptr stepW_nilck_iptr stepW_nilck_fn stepW_eqb stepW_i2i stepW_mkfn stepW_faddr_ptr stepW_faddr_iptr stepW_ext stepW_len_isl stepW_len_msl stepW_lens stepW_mx stepW_mn stepW_load1 stepW_loadA stepW_loadi1 stepW_loadiA stepW_store stepW_call stepW_alloc stepW_box stepW_app stepW_appz stepW_mksl stepW_copy stepW_clear stepW_eqs stepK_mv stepK_pick stepK_build stepK_bsl stepK_nilck_ptr stepK_nilck_iptr stepK_nilck_fn stepK_eqb stepK_i2i stepK_mkfn stepK_faddr_ptr stepK_faddr_iptr stepK_ext stepK_len_isl stepK_len_msl stepK_lens stepK_mx stepK_mn stepK_load1 stepK_loadA stepK_loadi1 stepK_loadiA stepK_store
attribute [go_sem] stepW_b_add stepK_b_add stepW_b_sub stepK_b_sub stepW_b_mul stepK_b_mul stepW_b_quo stepK_b_quo stepW_b_rem stepK_b_rem stepW_b_and stepK_b_and stepW_b_or stepK_b_or stepW_b_xor stepK_b_xor stepW_b_andNot stepK_b_andNot stepW_b_eql stepK_b_eql stepW_b_neq stepK_b_neq stepW_b_lss stepK_b_lss stepW_b_leq stepK_b_leq stepW_b_gtr stepK_b_gtr stepW_b_geq stepK_b_geq stepW_b_shl stepK_b_shl stepW_b_shr stepK_b_shr stepW_s_add stepK_s_add stepW_s_eql stepK_s_eql stepW_s_neq stepK_s_neq stepW_s_lss stepK_s_lss stepW_eqp_ptr stepK_eqp_ptr stepW_eqp_iptr stepK_eqp_iptr stepW_eqp_nil stepK_eqp_nil stepW_neg stepK_neg stepW_not stepK_not stepW_sl_inn stepK_sl_inn stepW_sl_mnn stepK_sl_mnn stepW_sls_nn stepK_sls_nn stepW_sl_isn stepK_sl_isn stepW_sl_msn stepK_sl_msn stepW_sls_sn stepK_sls_sn stepW_sl_ins stepK_sl_ins stepW_sl_mns stepK_sl_mns stepW_sls_ns stepK_sls_ns stepW_sl_iss stepK_sl_iss stepW_sl_mss stepK_sl_mss stepW_sls_ss stepK_sls_ss stepW_sl_i3 stepK_sl_i3 stepW_sl_i0 stepK_sl_i0 stepW_sl_m3 stepK_sl_m3 stepW_fieldA stepK_fieldA stepW_field1 stepK_field1 stepW_iaddrA_p stepK_iaddrA_p stepW_iaddrA_i stepK_iaddrA_i stepW_cap_m stepK_cap_m stepW_cap_i stepK_cap_i cells_bool one_bool cells_int one_int cells_str one_str cells_isl one_isl cells_msl one_msl cells_ptr one_ptr cells_iptr one_iptr cells_nilptr one_nilptr cells_fn one_fn cells_nilfn one_nilfn cells_iface one_iface cells_nilif one_nilif cells_agg
attribute [go_sem] List.map_cons List.map_nil Option.map_some Option.map_none Nat.zero_add Bool.cond_true Bool.cond_false true_and and_true forall_const implies_true not_true_eq_false not_false_eq_true Bool.not_false Bool.not_true Bool.and_self Bool.and_true Bool.true_and List.getElem?_cons_zero List.getElem?_cons_succ Option.some.injEq exists_eq_left' List.length_cons List.length_nil List.set_cons_zero List.set_cons_succ List.take_succ_cons List.take_zero List.drop_succ_cons List.drop_zero List.nil_append List.cons_append List.append_nil List.forall_mem_cons List.not_mem_nil false_implies List.length_map List.length_append Nat.mul_one Nat.add_zero List.replicate_succ List.replicate_zero upd_upd Bool.not_eq_true Nat.zero_lt_succ
attribute [go_sem_proc] Nat.reduceEqDiff Nat.reduceAdd Nat.reduceSub Nat.reduceMul Nat.reducePow Nat.reduceDiv Nat.reduceMod Int.reduceToNat Nat.reduceLeDiff Nat.reduceLT Int.reduceEq Int.reduceLT Int.reduceLE Int.reduceGT Int.reduceGE Int.reduceNeg Int.reduceSub Int.reduceAdd Int.reduceMul Int.reducePow reduceCtorEq

/-- A number that fits. -/
theorem wrap64 {a : Int} (h1 : -9223372036854775808 ≤ a) (h2 : a ≤ 9223372036854775807) : IntKind.i64.wrap a = a := by
 rw [IntKind.wrap_i64]; omega
theorem wrapU64 {a : Int} (h1 : 0 ≤ a) (h2 : a ≤ 18446744073709551615) : IntKind.u64.wrap a = a := by
 simp only [IntKind.wrap, IntKind.bits, IntKind.signed]; simp; omega

section
variable {P : Program} {Γ : St} {f : FuncId} {n : Nat} {Q : V → St → Prop} {k : List It} {T : Ts} {σ : St}
theorem W_drawW {segs : List DT} (h : WD P Γ f n Q k segs T σ) : W P Γ f n Q (.code (.draw segs) :: k) T σ := by
 rw [W_draw]; exact SRun.drawW h
/-- A return. -/
theorem W_retR {cf : CF} (hc : compF P f = some cf) {r : V} (hr : resV cf.rs T σ = some r) (hQ : Q r σ) : W P Γ f n Q (.code .ret :: k) T σ := by
 rw [W_ret]; exact SRun.retR hc hr hQ
theorem W_retC {cf : CF} (hc : compF P f = some cf) {r r' : V} {σ' : St} (hr : resV cf.rs T σ = some r) (hcv : Conv σ r σ' r') (hQ : Q r' σ') : W P Γ f n Q (.code .ret :: k) T σ := by
 rw [W_ret]; exact SRun.ret hc hr hcv hQ
/-- A row of cells that is given up. -/
theorem Frz.row {σ' : St} {b len cap : Nat} {cs xs : List V} (hb : σ b = some cs) (hb' : σ' b = none) (hx : cs.take len = xs) (hl : xs.length = len) (h1 : ∀ x ∈ xs, x.one = true) : Frz σ σ' (.msl b 1 0 len cap) (.isl false 1 xs) := by
 have hc1 : ∀ {x : V}, x.one = true → x.cells = [x] := by intro x h; cases x <;> first | rfl | (simp [V.one] at h)
 have hfl : flat xs = xs := by
  clear hx hl
  induction xs with
  | nil => rfl
  | cons x xs ih =>
   have := ih fun y hy => h1 y (List.mem_cons_of_mem _ hy)
   simp only [flat, List.flatMap_cons] at this ⊢
   rw [this, hc1 (h1 x (List.mem_cons_self ..))]; rfl
 have hlen : len ≤ cs.length := by rw [← hl, ← hx]; simp; omega
 refine .msl b 1 0 len cap cs xs hb hb' (by omega) hl (fun x hx => by rw [hc1 (h1 x hx)]; rfl) (by rw [hfl]; omega) (fun i x hx => h1 x (List.mem_of_getElem? (hfl ▸ hx))) (fun i x y hy hx => ?_)
 rw [hfl] at hx
 have hx2 : (cs.take len)[i]? = some x := by rw [‹cs.take len = xs›]; exact hx
 rw [List.getElem?_take] at hx2
 split at hx2
 ·rw [Nat.zero_add] at hy; rw [hy] at hx2; obtain rfl := Option.some.inj hx2; exact .refl _
 ·cases hx2
theorem le_upd {b : Nat} {cs : List V} (h : σ b = none) : ∀ c x, σ c = some x → upd σ b cs c = some x := by
 intro c x hc
 rw [upd_ne]
 ·exact hc
 ·intro e; subst e; rw [h] at hc; cases hc
end
end Go.Proofs.Ytdenfjbhkdhlkaa.Lg
