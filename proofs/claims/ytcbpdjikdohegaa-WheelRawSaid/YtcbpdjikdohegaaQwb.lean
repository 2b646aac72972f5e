/-
  What lives of layer 17 comes to: some of its calls, run. Printed by a program (dev/chunk.sh). No condition.
-/
import Derived.Test.YtcbpdjikdohegaaQwa2
namespace Go.Proofs.Ytcbpdjikdohegaa
open Go.RowKit
/-- linkboy/wheel.Wheel.tick -/
theorem qwr6 : memoRuns Try.prog qwt6 100000 60 64 qwa6 qwb6 qwv6 qwc6 = true := by kernel_rfl
/-- linkboy/wheel.Wheel.tick -/
theorem qwr12 : memoRuns Try.prog qwt12 100000 60 64 qwa12 qwb12 qwv12 qwc12 = true := by kernel_rfl
/-- linkboy/wheel.Wheel.tick -/
theorem qwr18 : memoRuns Try.prog qwt18 100000 60 64 qwa18 qwb18 qwv18 qwc18 = true := by kernel_rfl
/-- linkboy/wheel.Wheel.tick -/
theorem qwr24 : memoRuns Try.prog qwt24 100000 60 64 qwa24 qwb24 qwv24 qwc24 = true := by kernel_rfl
/-- linkboy/wheel.Wheel.tick -/
theorem qwr30 : memoRuns Try.prog qwt30 100000 60 64 qwa30 qwb30 qwv30 qwc30 = true := by kernel_rfl
/-- linkboy/wheel.Wheel.tick -/
theorem qwr36 : memoRuns Try.prog qwt36 100000 60 64 qwa36 qwb36 qwv36 qwc36 = true := by kernel_rfl
/-- linkboy/wheel.Wheel.tick -/
theorem qwr42 : memoRuns Try.prog qwt42 100000 60 64 qwa42 qwb42 qwv42 qwc42 = true := by kernel_rfl
/-- linkboy/wheel.Wheel.tick -/
theorem qwr48 : memoRuns Try.prog qwt48 100000 60 64 qwa48 qwb48 qwv48 qwc48 = true := by kernel_rfl
/-- linkboy/wheel.Wheel.tick -/
theorem qwr54 : memoRuns Try.prog qwt54 100000 60 64 qwa54 qwb54 qwv54 qwc54 = true := by kernel_rfl
/-- linkboy/wheel.Wheel.tick -/
theorem qwr60 : memoRuns Try.prog qwt60 100000 60 64 qwa60 qwb60 qwv60 qwc60 = true := by kernel_rfl
/-- linkboy/wheel.Wheel.tick -/
theorem qwr66 : memoRuns Try.prog qwt66 100000 60 64 qwa66 qwb66 qwv66 qwc66 = true := by kernel_rfl
/-- linkboy/wheel.Wheel.tick -/
theorem qwr72 : memoRuns Try.prog qwt72 100000 60 64 qwa72 qwb72 qwv72 qwc72 = true := by kernel_rfl
/-- linkboy/wheel.Wheel.tick -/
theorem qwr78 : memoRuns Try.prog qwt78 100000 60 64 qwa78 qwb78 qwv78 qwc78 = true := by kernel_rfl
/-- linkboy/wheel.Wheel.tick -/
theorem qwr84 : memoRuns Try.prog qwt84 100000 60 64 qwa84 qwb84 qwv84 qwc84 = true := by kernel_rfl
/-- linkboy/wheel.Wheel.tick -/
theorem qwr90 : memoRuns Try.prog qwt90 100000 60 64 qwa90 qwb90 qwv90 qwc90 = true := by kernel_rfl
/-- linkboy/wheel.Wheel.tick -/
theorem qwr96 : memoRuns Try.prog qwt96 100000 60 64 qwa96 qwb96 qwv96 qwc96 = true := by kernel_rfl
/-- linkboy/wheel.Wheel.tick -/
theorem qwr103 : memoRuns Try.prog qwt103 100000 60 64 qwa103 qwb103 qwv103 qwc103 = true := by kernel_rfl
/-- linkboy/wheel.Wheel.tick -/
theorem qwr109 : memoRuns Try.prog qwt109 100000 60 64 qwa109 qwb109 qwv109 qwc109 = true := by kernel_rfl
/-- linkboy/wheel.Wheel.tick -/
theorem qwr115 : memoRuns Try.prog qwt115 100000 60 64 qwa115 qwb115 qwv115 qwc115 = true := by kernel_rfl
/-- linkboy/wheel.Wheel.tick -/
theorem qwr121 : memoRuns Try.prog qwt121 100000 60 64 qwa121 qwb121 qwv121 qwc121 = true := by kernel_rfl
/-- linkboy/wheel.Wheel.tick -/
theorem qwr127 : memoRuns Try.prog qwt127 100000 60 64 qwa127 qwb127 qwv127 qwc127 = true := by kernel_rfl
/-- linkboy/wheel.Wheel.tick -/
theorem qwr133 : memoRuns Try.prog qwt133 100000 60 64 qwa133 qwb133 qwv133 qwc133 = true := by kernel_rfl
/-- linkboy/wheel.Wheel.tick -/
theorem qwr139 : memoRuns Try.prog qwt139 100000 60 64 qwa139 qwb139 qwv139 qwc139 = true := by kernel_rfl
/-- linkboy/wheel.Wheel.tick -/
theorem qwr145 : memoRuns Try.prog qwt145 100000 60 64 qwa145 qwb145 qwv145 qwc145 = true := by kernel_rfl
/-- linkboy/wheel.Wheel.tick -/
theorem qwr151 : memoRuns Try.prog qwt151 100000 60 64 qwa151 qwb151 qwv151 qwc151 = true := by kernel_rfl
/-- linkboy/wheel.Wheel.tick -/
theorem qwr157 : memoRuns Try.prog qwt157 100000 60 64 qwa157 qwb157 qwv157 qwc157 = true := by kernel_rfl
/-- linkboy/wheel.Wheel.tick -/
theorem qwr163 : memoRuns Try.prog qwt163 100000 60 64 qwa163 qwb163 qwv163 qwc163 = true := by kernel_rfl
/-- linkboy/wheel.Wheel.tick -/
theorem qwr169 : memoRuns Try.prog qwt169 100000 60 64 qwa169 qwb169 qwv169 qwc169 = true := by kernel_rfl
/-- linkboy/wheel.Wheel.tick -/
theorem qwr175 : memoRuns Try.prog qwt175 100000 60 64 qwa175 qwb175 qwv175 qwc175 = true := by kernel_rfl
/-- linkboy/wheel.Wheel.tick -/
theorem qwr181 : memoRuns Try.prog qwt181 100000 60 64 qwa181 qwb181 qwv181 qwc181 = true := by kernel_rfl
/-- linkboy/wheel.Wheel.tick -/
theorem qwr187 : memoRuns Try.prog qwt187 100000 60 64 qwa187 qwb187 qwv187 qwc187 = true := by kernel_rfl
/-- linkboy/wheel.Wheel.tick -/
theorem qwr193 : memoRuns Try.prog qwt193 100000 60 64 qwa193 qwb193 qwv193 qwc193 = true := by kernel_rfl
/-- linkboy/wheel.Wheel.tick -/
theorem qwr200 : memoRuns Try.prog qwt200 100000 60 64 qwa200 qwb200 qwv200 qwc200 = true := by kernel_rfl
/-- linkboy/wheel.Wheel.tick -/
theorem qwr206 : memoRuns Try.prog qwt206 100000 60 64 qwa206 qwb206 qwv206 qwc206 = true := by kernel_rfl
/-- linkboy/wheel.Wheel.tick -/
theorem qwr212 : memoRuns Try.prog qwt212 100000 60 64 qwa212 qwb212 qwv212 qwc212 = true := by kernel_rfl
/-- linkboy/wheel.Wheel.tick -/
theorem qwr218 : memoRuns Try.prog qwt218 100000 60 64 qwa218 qwb218 qwv218 qwc218 = true := by kernel_rfl
/-- linkboy/wheel.Wheel.tick -/
theorem qwr224 : memoRuns Try.prog qwt224 100000 60 64 qwa224 qwb224 qwv224 qwc224 = true := by kernel_rfl
/-- linkboy/wheel.Wheel.tick -/
theorem qwr230 : memoRuns Try.prog qwt230 100000 60 64 qwa230 qwb230 qwv230 qwc230 = true := by kernel_rfl
/-- linkboy/wheel.Wheel.tick -/
theorem qwr236 : memoRuns Try.prog qwt236 100000 60 64 qwa236 qwb236 qwv236 qwc236 = true := by kernel_rfl
/-- linkboy/wheel.Wheel.tick -/
theorem qwr242 : memoRuns Try.prog qwt242 100000 60 64 qwa242 qwb242 qwv242 qwc242 = true := by kernel_rfl
/-- linkboy/wheel.Wheel.tick -/
theorem qwr248 : memoRuns Try.prog qwt248 100000 60 64 qwa248 qwb248 qwv248 qwc248 = true := by kernel_rfl
/-- linkboy/wheel.Wheel.tick -/
theorem qwr254 : memoRuns Try.prog qwt254 100000 60 64 qwa254 qwb254 qwv254 qwc254 = true := by kernel_rfl
/-- linkboy/wheel.Wheel.tick -/
theorem qwr260 : memoRuns Try.prog qwt260 100000 60 64 qwa260 qwb260 qwv260 qwc260 = true := by kernel_rfl
/-- linkboy/wheel.Wheel.tick -/
theorem qwr266 : memoRuns Try.prog qwt266 100000 60 64 qwa266 qwb266 qwv266 qwc266 = true := by kernel_rfl
/-- linkboy/wheel.Wheel.tick -/
theorem qwr272 : memoRuns Try.prog qwt272 100000 60 64 qwa272 qwb272 qwv272 qwc272 = true := by kernel_rfl
/-- linkboy/wheel.Wheel.tick -/
theorem qwr278 : memoRuns Try.prog qwt278 100000 60 64 qwa278 qwb278 qwv278 qwc278 = true := by kernel_rfl
/-- linkboy/wheel.Wheel.tick -/
theorem qwr284 : memoRuns Try.prog qwt284 100000 60 64 qwa284 qwb284 qwv284 qwc284 = true := by kernel_rfl
/-- linkboy/wheel.Wheel.tick -/
theorem qwr290 : memoRuns Try.prog qwt290 100000 60 64 qwa290 qwb290 qwv290 qwc290 = true := by kernel_rfl
/-- linkboy/wheel.Wheel.tick -/
theorem qwr297 : memoRuns Try.prog qwt297 100000 60 64 qwa297 qwb297 qwv297 qwc297 = true := by kernel_rfl
/-- linkboy/wheel.Wheel.tick -/
theorem qwr303 : memoRuns Try.prog qwt303 100000 60 64 qwa303 qwb303 qwv303 qwc303 = true := by kernel_rfl
/-- linkboy/wheel.Wheel.tick -/
theorem qwr309 : memoRuns Try.prog qwt309 100000 60 64 qwa309 qwb309 qwv309 qwc309 = true := by kernel_rfl
/-- linkboy/wheel.Wheel.tick -/
theorem qwr315 : memoRuns Try.prog qwt315 100000 60 64 qwa315 qwb315 qwv315 qwc315 = true := by kernel_rfl
/-- linkboy/wheel.Wheel.tick -/
theorem qwr321 : memoRuns Try.prog qwt321 100000 60 64 qwa321 qwb321 qwv321 qwc321 = true := by kernel_rfl
/-- linkboy/wheel.Wheel.tick -/
theorem qwr327 : memoRuns Try.prog qwt327 100000 60 64 qwa327 qwb327 qwv327 qwc327 = true := by kernel_rfl
/-- linkboy/wheel.Wheel.tick -/
theorem qwr333 : memoRuns Try.prog qwt333 100000 60 64 qwa333 qwb333 qwv333 qwc333 = true := by kernel_rfl
/-- linkboy/wheel.Wheel.tick -/
theorem qwr339 : memoRuns Try.prog qwt339 100000 60 64 qwa339 qwb339 qwv339 qwc339 = true := by kernel_rfl
/-- linkboy/wheel.Wheel.tick -/
theorem qwr345 : memoRuns Try.prog qwt345 100000 60 64 qwa345 qwb345 qwv345 qwc345 = true := by kernel_rfl
/-- linkboy/wheel.Wheel.tick -/
theorem qwr351 : memoRuns Try.prog qwt351 100000 60 64 qwa351 qwb351 qwv351 qwc351 = true := by kernel_rfl
/-- linkboy/wheel.Wheel.tick -/
theorem qwr357 : memoRuns Try.prog qwt357 100000 60 64 qwa357 qwb357 qwv357 qwc357 = true := by kernel_rfl
/-- linkboy/wheel.Wheel.tick -/
theorem qwr363 : memoRuns Try.prog qwt363 100000 60 64 qwa363 qwb363 qwv363 qwc363 = true := by kernel_rfl
/-- linkboy/wheel.Wheel.tick -/
theorem qwr369 : memoRuns Try.prog qwt369 100000 60 64 qwa369 qwb369 qwv369 qwc369 = true := by kernel_rfl
/-- linkboy/wheel.Wheel.tick -/
theorem qwr375 : memoRuns Try.prog qwt375 100000 60 64 qwa375 qwb375 qwv375 qwc375 = true := by kernel_rfl
/-- linkboy/wheel.Wheel.tick -/
theorem qwr381 : memoRuns Try.prog qwt381 100000 60 64 qwa381 qwb381 qwv381 qwc381 = true := by kernel_rfl
/-- linkboy/wheel.Wheel.tick -/
theorem qwr387 : memoRuns Try.prog qwt387 100000 60 64 qwa387 qwb387 qwv387 qwc387 = true := by kernel_rfl
/-- linkboy/wheel.Wheel.tick -/
theorem qwr394 : memoRuns Try.prog qwt394 100000 60 64 qwa394 qwb394 qwv394 qwc394 = true := by kernel_rfl
/-- linkboy/wheel.Wheel.tick -/
theorem qwr400 : memoRuns Try.prog qwt400 100000 60 64 qwa400 qwb400 qwv400 qwc400 = true := by kernel_rfl
/-- linkboy/wheel.Wheel.tick -/
theorem qwr406 : memoRuns Try.prog qwt406 100000 60 64 qwa406 qwb406 qwv406 qwc406 = true := by kernel_rfl
/-- linkboy/wheel.Wheel.tick -/
theorem qwr412 : memoRuns Try.prog qwt412 100000 60 64 qwa412 qwb412 qwv412 qwc412 = true := by kernel_rfl
/-- linkboy/wheel.Wheel.tick -/
theorem qwr418 : memoRuns Try.prog qwt418 100000 60 64 qwa418 qwb418 qwv418 qwc418 = true := by kernel_rfl
/-- linkboy/wheel.Wheel.tick -/
theorem qwr424 : memoRuns Try.prog qwt424 100000 60 64 qwa424 qwb424 qwv424 qwc424 = true := by kernel_rfl
/-- linkboy/wheel.Wheel.tick -/
theorem qwr430 : memoRuns Try.prog qwt430 100000 60 64 qwa430 qwb430 qwv430 qwc430 = true := by kernel_rfl
/-- linkboy/wheel.Wheel.tick -/
theorem qwr436 : memoRuns Try.prog qwt436 100000 60 64 qwa436 qwb436 qwv436 qwc436 = true := by kernel_rfl
/-- linkboy/wheel.Wheel.tick -/
theorem qwr442 : memoRuns Try.prog qwt442 100000 60 64 qwa442 qwb442 qwv442 qwc442 = true := by kernel_rfl
/-- linkboy/wheel.Wheel.tick -/
theorem qwr448 : memoRuns Try.prog qwt448 100000 60 64 qwa448 qwb448 qwv448 qwc448 = true := by kernel_rfl
/-- linkboy/wheel.Wheel.tick -/
theorem qwr454 : memoRuns Try.prog qwt454 100000 60 64 qwa454 qwb454 qwv454 qwc454 = true := by kernel_rfl
end Go.Proofs.Ytcbpdjikdohegaa
