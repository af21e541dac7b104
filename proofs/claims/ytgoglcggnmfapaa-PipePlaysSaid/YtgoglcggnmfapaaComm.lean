/-
  A select of one case with a default, in the middle of a walk: frames of an ordinary call.
-/
import Derived.Test.YtgoglcggnmfapaaLib
import Derived.Conc.LoneSelect
namespace Go.Proofs.Ytgoglcggnmfapaa
open Go.RowKit Go.Conc

/-- A piece of code as an ordinary call runs it. -/
def RunsTo (P : Program) (c : Code) (Q : Exit → Act → World → Prop) (a : Act) (w : World) : Prop :=
  ∀ (b : Frame) (k : List Item) (cs : List Frame), b.kind = .normal → ∃ e a' w', Q e a' w' ∧ Arrives P (lone (b.at a (.code c :: k)) cs w) b k cs e a' w'

section
variable {P : Program} {Q : Exit → Act → World → Prop} {a : Act} {w : World}

theorem RunsTo.of {c : Code} (h : c.wp P Q a w) : RunsTo P c Q a w := fun b k cs _ => h b k cs

theorem RunsTo.seq {x y : Code} (h : RunsTo P x (Exit.then (RunsTo P y Q) Q) a w) : RunsTo P (Code.seq x y) Q a w := fun b k cs hb => by
  obtain ⟨e, a₁, w₁, hq, har⟩ := h b (.code y :: k) cs hb
  have pas : e ≠ .normal → Arrives P (lone (b.at a (.code (Code.seq x y) :: k)) cs w) b k cs e a₁ w₁ := fun hne =>
    Arrives.of_steps (.one step_seq) (Arrives.pass (x := .code y) rfl (fun _ _ => .inl hne) har)
  cases e with
  | normal =>
    obtain ⟨e₂, a₂, w₂, hq₂, har₂⟩ := hq b k cs hb
    exact ⟨e₂, a₂, w₂, hq₂, Arrives.of_steps (.head step_seq har) har₂⟩
  | ret => exact ⟨_, _, _, hq, pas (by simp)⟩
  | panic _ => exact ⟨_, _, _, hq, pas (by simp)⟩
  | exit _ => exact ⟨_, _, _, hq, pas (by simp)⟩
  | goto _ => exact ⟨_, _, _, hq, pas (by simp)⟩
  | outgrown => exact ⟨_, _, _, hq, pas (by simp)⟩

/-- A function's contract from its body. -/
theorem calls_of_runs {f : FuncId} {fn : Func} {c : Code} {args : Array Value} {R : Ending → World → Prop} (hf : P.funcs[f]? = some fn) (hb : fn.body = some c)
    (h : RunsTo P c (bodyPost P fn R) { tmps := args ++ Array.replicate (fn.ntmps - args.size) undef, defers := [] } w) : Calls P f args w R := by
  intro cs
  obtain ⟨b, hbd⟩ : ∃ b : Frame, b = { (default : Frame) with fn := f, kind := .normal } := ⟨_, rfl⟩
  have hfn : b.fn = f := by rw [hbd]
  have hkn : b.kind = .normal := by rw [hbd]
  have hin : Frame.enter P f args .normal = b.at { tmps := args ++ Array.replicate (fn.ntmps - args.size) undef, defers := [] } [.code c] := by
    rw [hbd]; simp [Frame.enter, Frame.at, hf, hb]
  obtain ⟨e, a', w', hq, har⟩ := h b [] cs hkn
  rw [← hin] at har
  cases e with
  | normal =>
    obtain ⟨hd, v, hv, hR⟩ := hq
    exact ⟨.returned v, w', _, hR, Steps.trans har (.one step_end), hfn, rfl, hd, hkn, fn, by rw [← hf]; exact congrArg _ hfn, hv⟩
  | ret =>
    obtain ⟨hd, v, hv, hR⟩ := hq
    obtain ⟨todo, hs⟩ := har
    exact ⟨.returned v, w', _, hR, hs, hfn, rfl, hd, hkn, fn, by rw [← hf]; exact congrArg _ hfn, hv⟩
  | panic chain =>
    obtain ⟨hd, hR⟩ := hq
    obtain ⟨todo, hs⟩ := har
    exact ⟨.panicked chain, w', _, hR, hs, hfn, rfl, hd, fn, by rw [← hf]; exact congrArg _ hfn⟩
  | exit _ => exact hq.elim
  | goto _ => exact hq.elim
  | outgrown => exact ⟨.outgrown, w', b, hq, har.resolve_left (by rw [hkn]; simp), hfn, trivial⟩

/-- A region whose first operation is a step of the machine's that yields v. -/
theorem RunsTo.head {id : Nat} {o : Oper} {l : List Oper} {v : Value} {w' : World}
    (hs : ∀ (b : Frame) (k : List Item) (cs : List Frame), b.kind = .normal → step P (solo (G (b.at a (.inRegion (o :: l).toArray (0 :: List.range' 1 l.length) :: k)) cs) w) = .next (solo (G ((b.at a (.inRegion (o :: l).toArray (0 :: List.range' 1 l.length) :: k)).finish v) cs) w'))
    (h : wpList P (o :: l).toArray Q l (a.put o.dst v) w') : RunsTo P (.region id (o :: l).toArray false) Q a w := fun b k cs hb => by
  have hr : List.range (o :: l).toArray.size = 0 :: List.range' 1 l.length := by
    rw [List.range_eq_range']
    simp [List.range'_succ]
  have h1 : step P (lone (b.at a (.code (.region id (o :: l).toArray false) :: k)) cs w) = .next (lone (b.at a (.inRegion (o :: l).toArray (0 :: List.range' 1 l.length) :: k)) cs w) := by
    rw [← hr]; exact step_region
  have h2 := hs b k cs hb
  rw [Frame.finish_at] at h2
  have h3 : (((o :: l).toArray[0]?).bind (·.dst)) = o.dst := by simp
  rw [h3] at h2
  rw [← wpOps_eq_wpList (ops := (o :: l).toArray) l 1 (fun j => by simp [Nat.add_comm 1 j])] at h
  obtain ⟨e, a', w'', hq, har⟩ := wp_ops _ _ _ h b k cs
  exact ⟨e, a', w'', hq, Arrives.of_steps (.head h1 (.one h2)) har⟩

theorem RunsTo.recv {id : Nat} {o : Oper} {l : List Oper} {z : Value} {c cap s r : Nat} {buf : Array Value} (hw : Region.wanted o (yielded (o :: l).toArray a.tmps) = true)
    (hr : (execOp a.eval o).run P w = .ok (.comm #[rcase c z] false .select) w) (hc : w.heap[c]? = some (.chan cap buf false s r false)) (hsome : 0 < buf.size)
    (h : wpList P (o :: l).toArray Q l (a.put o.dst (.tuple #[goInt 0, .bool true, buf.getD 0 undef])) (w.setChan c cap (buf.extract 1 buf.size) false s (r + 1) false)) : RunsTo P (.region id (o :: l).toArray false) Q a w :=
  RunsTo.head (fun b k cs hb => step_lone_select_recv_buf (stepG_comm (by simp) hw (by rw [hb]; simp) hr) hc hsome) h

theorem RunsTo.empty {id : Nat} {o : Oper} {l : List Oper} {z : Value} {c cap s r : Nat} (hw : Region.wanted o (yielded (o :: l).toArray a.tmps) = true)
    (hr : (execOp a.eval o).run P w = .ok (.comm #[rcase c z] false .select) w) (hc : w.heap[c]? = some (.chan cap #[] false s r false))
    (h : wpList P (o :: l).toArray Q l (a.put o.dst (.tuple #[goInt (-1), .bool false, z])) w) : RunsTo P (.region id (o :: l).toArray false) Q a w :=
  RunsTo.head (fun b k cs hb => step_lone_select_default (stepG_comm (by simp) hw (by rw [hb]; simp) hr) hc) h

theorem RunsTo.send {id : Nat} {o : Oper} {l : List Oper} {v z : Value} {c cap s r : Nat} {buf : Array Value} (hw : Region.wanted o (yielded (o :: l).toArray a.tmps) = true)
    (hr : (execOp a.eval o).run P w = .ok (.comm #[scase c v z] false .select) w) (hc : w.heap[c]? = some (.chan cap buf false s r false)) (hroom : buf.size < cap)
    (h : wpList P (o :: l).toArray Q l (a.put o.dst (.tuple #[goInt 0, .bool false])) (w.setChan c cap (buf.push v) false (s + 1) r false)) : RunsTo P (.region id (o :: l).toArray false) Q a w :=
  RunsTo.head (fun b k cs hb => step_lone_select_send_room (stepG_comm (by simp) hw (by rw [hb]; simp) hr) hc hroom) h
end

end Go.Proofs.Ytgoglcggnmfapaa
