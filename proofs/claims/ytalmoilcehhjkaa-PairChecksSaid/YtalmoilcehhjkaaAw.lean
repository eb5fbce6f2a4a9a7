/- The check that is made whatever the input is (chapter 4). -/
import Derived.Test.YtalmoilcehhjkaaAwE
set_option linter.unusedVariables false
set_option linter.unusedSimpArgs false
namespace Go.Proofs.Ytalmoilcehhjkaa
open Go hiding Expr
open Go.AM hiding get
theorem awake_z : t15 Heap0 (fun s _ => s = true) := me15 (eV_ok 100 10) (by rw [awakeE]) fun _ _ e => e
theorem awake_ok {h : Heap} {K : Bool → Heap → Prop} (hK : K true h) : t15 h K := by
  have H : SndF Try.prog 15 [] Heap0 (outC [bP] fun s _ => s = true) := awake_z
  have H2 : SndF Try.prog 15 [] Heap0 (fun o _ => match o with | .ret u => u = .bool true | .pan _ => False) := H.mono fun o k ho => by
    cases o with
    | ret v =>
      obtain ⟨x, hx, e⟩ := (get_iff _ _).1 ho
      have := bP.ok v x hx
      subst this
      have e : x = true := e
      subst e; rfl
    | pan v => exact ho
  have H3 : SndF Try.prog 15 [] h (outC [bP] K) := closed_snd rfl rfl H2 hK
  exact H3
end Go.Proofs.Ytalmoilcehhjkaa
