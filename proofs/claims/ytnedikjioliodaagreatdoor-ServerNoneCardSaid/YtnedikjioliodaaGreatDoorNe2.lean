/- Errors.As walks the chain of errors. -/
import Derived.Test.YtnedikjioliodaaGreatDoorNe1
import Derived.Deep.LoopGhost
set_option linter.all false
namespace Go.Proofs.Ea
open Go Go.RowKit Go.Extern Go.AM
/-- how deep it is wrapped -/
inductive WN (w : World) (kT fT T : TypeId) : Nat → Value → Option Value → Prop where
  | hit (n : Nat) (v : Value) : WN w kT fT T n (.iface T v) (some v)
  | miss (n : Nat) (v : Value) (h : kT ≠ T) : WN w kT fT T n (.iface kT v) none
  | wrapNil (n : Nat) (a : Addr) (h : fT ≠ T) (hs : a.spot = none) (hc : w.cell? ⟨a.block, a.off + 2, none⟩ = some .nilIface) : WN w kT fT T n (.iface fT (.pointer (some a))) none
  | wrap (n : Nat) (a : Addr) (t : TypeId) (v : Value) (x : Option Value) (h : fT ≠ T) (hs : a.spot = none) (hc : w.cell? ⟨a.block, a.off + 2, none⟩ = some (.iface t v)) (hw : WN w kT fT T n (.iface t v) x) : WN w kT fT T (n + 1) (.iface fT (.pointer (some a))) x
theorem wn_of {w : World} {kT fT T : TypeId} {ev : Value} {x : Option Value} (h : Wraps w kT fT T ev x) : ∃ n, WN w kT fT T n ev x := by
  induction h with
  | hit v => exact ⟨0, .hit 0 v⟩
  | miss v h => exact ⟨0, .miss 0 v h⟩
  | wrapNil a h hs hc => exact ⟨0, .wrapNil 0 a h hs hc⟩
  | wrap a t v x h hs hc hw ih => obtain ⟨n, hn⟩ := ih; exact ⟨n + 1, .wrap n a t v x h hs hc hn⟩
/-- what the call leaves -/
def AsPost (w : World) (t : Addr) (x : Option Value) (e : Ending) (w' : World) : Prop := e = .returned (.bool x.isSome) ∧ ∃ w1, Junk w w1 ∧ w' = (match x with | some v => w1.setCell t v | none => w1)
set_option maxRecDepth 100000 in
set_option maxHeartbeats 4000000 in
theorem loop_K (ev : Value) (x : Option Value) (w : World) (A t : Addr) (n : Nat) (hn : WN w 94 93 94 n ev x) (hA : w.cell? A = some (.pointer (some t)))
    (hx : ∀ v, x = some v → v.oneCell' = true ∧ (∃ old, w.cell? t = some old) ∧ w.frozen? t = false) :
    Calls Tryz.prog 97 #[ev, .iface 130 (.pointer (some t)), .agg #[.pointer (some ⟨4, 130, none⟩), .pointer (some A), .int .u64 150], .iface 310 (.agg #[.pointer (some ⟨4, 94, none⟩)])] w (AsPost w t x) := by
  have h159 := @run_callFunc_extern Tryz.prog 159 _ ReflectliteType.typeOf Tryz.func159 (by kernel_rfl) (by kernel_rfl) (by kernel_rfl) (by kernel_rfl)
  have h491 := @run_callFunc_extern Tryz.prog 491 _ (ReflectliteType.relation "AssignableTo" ReflectliteType.assignableTo) Tryz.func491 (by kernel_rfl) (by kernel_rfl) (by kernel_rfl) (by kernel_rfl)
  have h160 := @run_callFunc_extern Tryz.prog 160 _ (ReflectliteValue.method (ReflectliteValue.valueError "reflectlite.Value.Elem" 0) ReflectliteValue.elem) Tryz.func160 (by kernel_rfl) (by kernel_rfl) (by kernel_rfl) (by kernel_rfl)
  have h94 := @run_callFunc_extern Tryz.prog 94 _ (fun args => ReflectliteValue.unpack (args.getD 0 (.tuple #[]))) Tryz.func94 (by kernel_rfl) (by kernel_rfl) (by kernel_rfl) (by kernel_rfl)
  have h161 := @run_callFunc_extern Tryz.prog 161 _ ReflectliteValue.set Tryz.func161 (by kernel_rfl) (by kernel_rfl) (by kernel_rfl) (by kernel_rfl)
  have mA := methodAssignableTo
  have tK := typeOfK
  have tF := typeOfF
  have aKK := asgKK
  have aFK := asgFK
  go_enter Tryz.func97, Tryz.ntmps97
  go_wp2
  go_loopg [0] n (fun n e0 w' => w' = w.alloc (.cells #[.pointer (some ⟨4, 130, none⟩), .pointer (some A), .int .u64 150] 208) ∧ WN w 94 93 94 n e0 x)
  case atStart => exact ⟨rfl, hn⟩
  case round =>
    obtain ⟨rfl, hw⟩ := hrel
    cases hw with
    | hit _ v =>
      obtain ⟨h1, ⟨old, hold⟩, hfz⟩ := hx v rfl
      have hcl : v.cells = #[v] := by cases v <;> first | rfl | simp [Value.oneCell'] at h1
      have hlt := World.block_lt_of_cell? _ _ hA
      have hlt2 := World.block_lt_of_cell? _ _ hold
      have el := elemVPK A t (w.alloc (.cells #[.pointer (some ⟨4, 130, none⟩), .pointer (some A), .int .u64 150] 208)) (by rw [World.cell?_alloc_lt _ _ A hlt]; exact hA)
      have vK : ∀ w : World, (ReflectliteValue.unpack (.iface 94 v)).run Tryz.prog w = .ok (.agg #[.pointer (some ⟨4, 94, none⟩), .pointer (some ⟨w.heap.size, 0, none⟩), .int .u64 130]) (w.alloc (.cells #[v] 94)) := by
        intro w; have := valueKg v w; rw [hcl] at this; exact this
      have st := setK t ⟨w.heap.size + 1, 0, none⟩ v old ((w.alloc (.cells #[.pointer (some ⟨4, 130, none⟩), .pointer (some A), .int .u64 150] 208)).alloc (.cells #[v] 94)) h1
        (by rw [World.cell?_alloc_at _ _ _ _ (by simp)]; rfl)
        (by rw [World.cell?_alloc_lt _ _ t (by simp; omega), World.cell?_alloc_lt _ _ t hlt2]; exact hold)
        (by rw [World.frozen?_alloc_old _ _ t (by simp; omega), World.frozen?_alloc_old _ _ t (Nat.ne_of_lt hlt2)]; exact hfz)
      clear hx hcl hold hfz hn
      go_wp2
      go_ret
      exact ⟨rfl, _, ((Junk.refl w).alloc _).alloc _, rfl⟩
    | miss _ v h => exact absurd rfl h
    | wrapNil _ a h hs hc =>
      obtain ⟨ab, ao, sp⟩ := a
      simp only at hs hc
      subst hs
      have hlt := World.block_lt_of_cell? _ _ hc
      have hc2 : (w.alloc (.cells #[.pointer (some ⟨4, 130, none⟩), .pointer (some A), .int .u64 150] 208)).cell? ⟨ab, ao + 2, none⟩ = some .nilIface := by rw [World.cell?_alloc_lt _ _ ⟨ab, ao + 2, none⟩ hlt]; exact hc
      have nA := noAsF
      have hU := hasUnF
      have mU := methodUnwrap
      clear hx hn hc
      go_wp2
      go_ret
      exact ⟨rfl, _, (Junk.refl w).alloc _, rfl⟩
    | wrap m a t2 v2 x h hs hc hw2 =>
      obtain ⟨ab, ao, sp⟩ := a
      simp only at hs hc
      subst hs
      have hlt := World.block_lt_of_cell? _ _ hc
      have hc2 : (w.alloc (.cells #[.pointer (some ⟨4, 130, none⟩), .pointer (some A), .int .u64 150] 208)).cell? ⟨ab, ao + 2, none⟩ = some (.iface t2 v2) := by rw [World.cell?_alloc_lt _ _ ⟨ab, ao + 2, none⟩ hlt]; exact hc
      have nA := noAsF
      have hU := hasUnF
      have mU := methodUnwrap
      clear hx hn hc
      go_wp2
      go_roundg m
      case rel => exact ⟨rfl, hw2⟩
      case measure => omega
set_option maxRecDepth 100000 in
set_option maxHeartbeats 4000000 in
theorem loop_F (ev : Value) (x : Option Value) (w : World) (A t : Addr) (n : Nat) (hn : WN w 94 93 93 n ev x) (hA : w.cell? A = some (.pointer (some t)))
    (hx : ∀ v, x = some v → v.oneCell' = true ∧ (∃ old, w.cell? t = some old) ∧ w.frozen? t = false) :
    Calls Tryz.prog 97 #[ev, .iface 555 (.pointer (some t)), .agg #[.pointer (some ⟨4, 555, none⟩), .pointer (some A), .int .u64 150], .iface 310 (.agg #[.pointer (some ⟨4, 93, none⟩)])] w (AsPost w t x) := by
  have h159 := @run_callFunc_extern Tryz.prog 159 _ ReflectliteType.typeOf Tryz.func159 (by kernel_rfl) (by kernel_rfl) (by kernel_rfl) (by kernel_rfl)
  have h491 := @run_callFunc_extern Tryz.prog 491 _ (ReflectliteType.relation "AssignableTo" ReflectliteType.assignableTo) Tryz.func491 (by kernel_rfl) (by kernel_rfl) (by kernel_rfl) (by kernel_rfl)
  have h160 := @run_callFunc_extern Tryz.prog 160 _ (ReflectliteValue.method (ReflectliteValue.valueError "reflectlite.Value.Elem" 0) ReflectliteValue.elem) Tryz.func160 (by kernel_rfl) (by kernel_rfl) (by kernel_rfl) (by kernel_rfl)
  have h94 := @run_callFunc_extern Tryz.prog 94 _ (fun args => ReflectliteValue.unpack (args.getD 0 (.tuple #[]))) Tryz.func94 (by kernel_rfl) (by kernel_rfl) (by kernel_rfl) (by kernel_rfl)
  have h161 := @run_callFunc_extern Tryz.prog 161 _ ReflectliteValue.set Tryz.func161 (by kernel_rfl) (by kernel_rfl) (by kernel_rfl) (by kernel_rfl)
  have mA := methodAssignableTo
  have tK := typeOfK
  have tF := typeOfF
  have aKK := asgKF
  have aFK := asgFF
  go_enter Tryz.func97, Tryz.ntmps97
  go_wp2
  go_loopg [0] n (fun n e0 w' => w' = w.alloc (.cells #[.pointer (some ⟨4, 555, none⟩), .pointer (some A), .int .u64 150] 208) ∧ WN w 94 93 93 n e0 x)
  case atStart => exact ⟨rfl, hn⟩
  case round =>
    obtain ⟨rfl, hw⟩ := hrel
    cases hw with
    | hit _ v =>
      obtain ⟨h1, ⟨old, hold⟩, hfz⟩ := hx v rfl
      have hcl : v.cells = #[v] := by cases v <;> first | rfl | simp [Value.oneCell'] at h1
      have hlt := World.block_lt_of_cell? _ _ hA
      have hlt2 := World.block_lt_of_cell? _ _ hold
      have el := elemVPF A t (w.alloc (.cells #[.pointer (some ⟨4, 555, none⟩), .pointer (some A), .int .u64 150] 208)) (by rw [World.cell?_alloc_lt _ _ A hlt]; exact hA)
      have vK : ∀ w : World, (ReflectliteValue.unpack (.iface 93 v)).run Tryz.prog w = .ok (.agg #[.pointer (some ⟨4, 93, none⟩), .pointer (some ⟨w.heap.size, 0, none⟩), .int .u64 150]) (w.alloc (.cells #[v] 93)) := by
        intro w; have := valueFg v w; rw [hcl] at this; exact this
      have st := setF t ⟨w.heap.size + 1, 0, none⟩ v old ((w.alloc (.cells #[.pointer (some ⟨4, 555, none⟩), .pointer (some A), .int .u64 150] 208)).alloc (.cells #[v] 93)) h1
        (by rw [World.cell?_alloc_at _ _ _ _ (by simp)]; rfl)
        (by rw [World.cell?_alloc_lt _ _ t (by simp; omega), World.cell?_alloc_lt _ _ t hlt2]; exact hold)
        (by rw [World.frozen?_alloc_old _ _ t (by simp; omega), World.frozen?_alloc_old _ _ t (Nat.ne_of_lt hlt2)]; exact hfz)
      clear hx hcl hold hfz hn
      go_wp2
      go_ret
      exact ⟨rfl, _, ((Junk.refl w).alloc _).alloc _, rfl⟩
    | miss _ v h =>
      have nA := noAsK
      have nU := noUnK
      have nS := noUnsK
      clear hx hn
      go_wp2
      go_ret
      exact ⟨rfl, _, (Junk.refl w).alloc _, rfl⟩
    | wrapNil _ a h hs hc => exact absurd rfl h
    | wrap m a t2 v2 x h hs hc hw2 => exact absurd rfl h
end Go.Proofs.Ea
