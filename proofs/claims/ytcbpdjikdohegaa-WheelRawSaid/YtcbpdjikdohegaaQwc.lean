/-
  What lives of layer 17 comes to: some of its calls, run. Printed by a program (dev/chunk.sh). No condition.
-/
import Derived.Test.YtcbpdjikdohegaaQwa2
namespace Go.Proofs.Ytcbpdjikdohegaa
open Go.RowKit
/-- linkboy/wheel.Wheel.tick -/
theorem qwr460 : memoRuns Try.prog qwt460 100000 60 64 qwa460 qwb460 qwv460 qwc460 = true := by kernel_rfl
/-- linkboy/wheel.Wheel.tick -/
theorem qwr466 : memoRuns Try.prog qwt466 100000 60 64 qwa466 qwb466 qwv466 qwc466 = true := by kernel_rfl
/-- linkboy/wheel.Wheel.tick -/
theorem qwr472 : memoRuns Try.prog qwt472 100000 60 64 qwa472 qwb472 qwv472 qwc472 = true := by kernel_rfl
/-- linkboy/wheel.Wheel.tick -/
theorem qwr478 : memoRuns Try.prog qwt478 100000 60 64 qwa478 qwb478 qwv478 qwc478 = true := by kernel_rfl
/-- linkboy/wheel.Wheel.tick -/
theorem qwr484 : memoRuns Try.prog qwt484 100000 60 64 qwa484 qwb484 qwv484 qwc484 = true := by kernel_rfl
/-- linkboy/wheel.Wheel.tick -/
theorem qwr491 : memoRuns Try.prog qwt491 100000 60 64 qwa491 qwb491 qwv491 qwc491 = true := by kernel_rfl
/-- linkboy/wheel.Wheel.tick -/
theorem qwr497 : memoRuns Try.prog qwt497 100000 60 64 qwa497 qwb497 qwv497 qwc497 = true := by kernel_rfl
/-- linkboy/wheel.Wheel.tick -/
theorem qwr503 : memoRuns Try.prog qwt503 100000 60 64 qwa503 qwb503 qwv503 qwc503 = true := by kernel_rfl
/-- linkboy/wheel.Wheel.tick -/
theorem qwr509 : memoRuns Try.prog qwt509 100000 60 64 qwa509 qwb509 qwv509 qwc509 = true := by kernel_rfl
/-- linkboy/wheel.Wheel.tick -/
theorem qwr515 : memoRuns Try.prog qwt515 100000 60 64 qwa515 qwb515 qwv515 qwc515 = true := by kernel_rfl
/-- linkboy/wheel.Wheel.tick -/
theorem qwr521 : memoRuns Try.prog qwt521 100000 60 64 qwa521 qwb521 qwv521 qwc521 = true := by kernel_rfl
/-- linkboy/wheel.Wheel.tick -/
theorem qwr527 : memoRuns Try.prog qwt527 100000 60 64 qwa527 qwb527 qwv527 qwc527 = true := by kernel_rfl
/-- linkboy/wheel.Wheel.tick -/
theorem qwr533 : memoRuns Try.prog qwt533 100000 60 64 qwa533 qwb533 qwv533 qwc533 = true := by kernel_rfl
/-- linkboy/wheel.Wheel.tick -/
theorem qwr539 : memoRuns Try.prog qwt539 100000 60 64 qwa539 qwb539 qwv539 qwc539 = true := by kernel_rfl
/-- linkboy/wheel.Wheel.tick -/
theorem qwr545 : memoRuns Try.prog qwt545 100000 60 64 qwa545 qwb545 qwv545 qwc545 = true := by kernel_rfl
/-- linkboy/wheel.Wheel.tick -/
theorem qwr551 : memoRuns Try.prog qwt551 100000 60 64 qwa551 qwb551 qwv551 qwc551 = true := by kernel_rfl
/-- linkboy/wheel.Wheel.tick -/
theorem qwr557 : memoRuns Try.prog qwt557 100000 60 64 qwa557 qwb557 qwv557 qwc557 = true := by kernel_rfl
/-- linkboy/wheel.Wheel.tick -/
theorem qwr563 : memoRuns Try.prog qwt563 100000 60 64 qwa563 qwb563 qwv563 qwc563 = true := by kernel_rfl
/-- linkboy/wheel.Wheel.tick -/
theorem qwr569 : memoRuns Try.prog qwt569 100000 60 64 qwa569 qwb569 qwv569 qwc569 = true := by kernel_rfl
/-- linkboy/wheel.Wheel.tick -/
theorem qwr575 : memoRuns Try.prog qwt575 100000 60 64 qwa575 qwb575 qwv575 qwc575 = true := by kernel_rfl
/-- linkboy/wheel.Wheel.tick -/
theorem qwr581 : memoRuns Try.prog qwt581 100000 60 64 qwa581 qwb581 qwv581 qwc581 = true := by kernel_rfl
/-- linkboy/wheel.Wheel.tick -/
theorem qwr588 : memoRuns Try.prog qwt588 100000 60 64 qwa588 qwb588 qwv588 qwc588 = true := by kernel_rfl
/-- linkboy/wheel.Wheel.tick -/
theorem qwr594 : memoRuns Try.prog qwt594 100000 60 64 qwa594 qwb594 qwv594 qwc594 = true := by kernel_rfl
/-- linkboy/wheel.Wheel.tick -/
theorem qwr600 : memoRuns Try.prog qwt600 100000 60 64 qwa600 qwb600 qwv600 qwc600 = true := by kernel_rfl
/-- linkboy/wheel.Wheel.tick -/
theorem qwr606 : memoRuns Try.prog qwt606 100000 60 64 qwa606 qwb606 qwv606 qwc606 = true := by kernel_rfl
/-- linkboy/wheel.Wheel.tick -/
theorem qwr612 : memoRuns Try.prog qwt612 100000 60 64 qwa612 qwb612 qwv612 qwc612 = true := by kernel_rfl
/-- linkboy/wheel.Wheel.tick -/
theorem qwr618 : memoRuns Try.prog qwt618 100000 60 64 qwa618 qwb618 qwv618 qwc618 = true := by kernel_rfl
/-- linkboy/wheel.Wheel.tick -/
theorem qwr624 : memoRuns Try.prog qwt624 100000 60 64 qwa624 qwb624 qwv624 qwc624 = true := by kernel_rfl
/-- linkboy/wheel.Wheel.tick -/
theorem qwr630 : memoRuns Try.prog qwt630 100000 60 64 qwa630 qwb630 qwv630 qwc630 = true := by kernel_rfl
/-- linkboy/wheel.Wheel.tick -/
theorem qwr636 : memoRuns Try.prog qwt636 100000 60 64 qwa636 qwb636 qwv636 qwc636 = true := by kernel_rfl
/-- linkboy/wheel.Wheel.tick -/
theorem qwr642 : memoRuns Try.prog qwt642 100000 60 64 qwa642 qwb642 qwv642 qwc642 = true := by kernel_rfl
/-- linkboy/wheel.Wheel.tick -/
theorem qwr648 : memoRuns Try.prog qwt648 100000 60 64 qwa648 qwb648 qwv648 qwc648 = true := by kernel_rfl
/-- linkboy/wheel.Wheel.tick -/
theorem qwr654 : memoRuns Try.prog qwt654 100000 60 64 qwa654 qwb654 qwv654 qwc654 = true := by kernel_rfl
/-- linkboy/wheel.Wheel.tick -/
theorem qwr660 : memoRuns Try.prog qwt660 100000 60 64 qwa660 qwb660 qwv660 qwc660 = true := by kernel_rfl
/-- linkboy/wheel.Wheel.tick -/
theorem qwr666 : memoRuns Try.prog qwt666 100000 60 64 qwa666 qwb666 qwv666 qwc666 = true := by kernel_rfl
/-- linkboy/wheel.Wheel.tick -/
theorem qwr672 : memoRuns Try.prog qwt672 100000 60 64 qwa672 qwb672 qwv672 qwc672 = true := by kernel_rfl
/-- linkboy/wheel.Wheel.tick -/
theorem qwr678 : memoRuns Try.prog qwt678 100000 60 64 qwa678 qwb678 qwv678 qwc678 = true := by kernel_rfl
/-- linkboy/wheel.Wheel.tick -/
theorem qwr685 : memoRuns Try.prog qwt685 100000 60 64 qwa685 qwb685 qwv685 qwc685 = true := by kernel_rfl
/-- linkboy/wheel.Wheel.tick -/
theorem qwr691 : memoRuns Try.prog qwt691 100000 60 64 qwa691 qwb691 qwv691 qwc691 = true := by kernel_rfl
/-- linkboy/wheel.Wheel.tick -/
theorem qwr697 : memoRuns Try.prog qwt697 100000 60 64 qwa697 qwb697 qwv697 qwc697 = true := by kernel_rfl
/-- linkboy/wheel.Wheel.tick -/
theorem qwr703 : memoRuns Try.prog qwt703 100000 60 64 qwa703 qwb703 qwv703 qwc703 = true := by kernel_rfl
/-- linkboy/wheel.Wheel.tick -/
theorem qwr709 : memoRuns Try.prog qwt709 100000 60 64 qwa709 qwb709 qwv709 qwc709 = true := by kernel_rfl
/-- linkboy/wheel.Wheel.tick -/
theorem qwr715 : memoRuns Try.prog qwt715 100000 60 64 qwa715 qwb715 qwv715 qwc715 = true := by kernel_rfl
/-- linkboy/wheel.Wheel.tick -/
theorem qwr721 : memoRuns Try.prog qwt721 100000 60 64 qwa721 qwb721 qwv721 qwc721 = true := by kernel_rfl
/-- linkboy/wheel.Wheel.tick -/
theorem qwr727 : memoRuns Try.prog qwt727 100000 60 64 qwa727 qwb727 qwv727 qwc727 = true := by kernel_rfl
/-- linkboy/wheel.Wheel.tick -/
theorem qwr733 : memoRuns Try.prog qwt733 100000 60 64 qwa733 qwb733 qwv733 qwc733 = true := by kernel_rfl
/-- linkboy/wheel.Wheel.tick -/
theorem qwr739 : memoRuns Try.prog qwt739 100000 60 64 qwa739 qwb739 qwv739 qwc739 = true := by kernel_rfl
/-- linkboy/wheel.Wheel.tick -/
theorem qwr745 : memoRuns Try.prog qwt745 100000 60 64 qwa745 qwb745 qwv745 qwc745 = true := by kernel_rfl
/-- linkboy/wheel.Wheel.tick -/
theorem qwr751 : memoRuns Try.prog qwt751 100000 60 64 qwa751 qwb751 qwv751 qwc751 = true := by kernel_rfl
/-- linkboy/wheel.Wheel.tick -/
theorem qwr757 : memoRuns Try.prog qwt757 100000 60 64 qwa757 qwb757 qwv757 qwc757 = true := by kernel_rfl
/-- linkboy/wheel.Wheel.tick -/
theorem qwr763 : memoRuns Try.prog qwt763 100000 60 64 qwa763 qwb763 qwv763 qwc763 = true := by kernel_rfl
/-- linkboy/wheel.Wheel.tick -/
theorem qwr769 : memoRuns Try.prog qwt769 100000 60 64 qwa769 qwb769 qwv769 qwc769 = true := by kernel_rfl
/-- linkboy/wheel.Wheel.tick -/
theorem qwr775 : memoRuns Try.prog qwt775 100000 60 64 qwa775 qwb775 qwv775 qwc775 = true := by kernel_rfl
/-- linkboy/wheel.Wheel.tick -/
theorem qwr782 : memoRuns Try.prog qwt782 100000 60 64 qwa782 qwb782 qwv782 qwc782 = true := by kernel_rfl
/-- linkboy/wheel.Wheel.tick -/
theorem qwr788 : memoRuns Try.prog qwt788 100000 60 64 qwa788 qwb788 qwv788 qwc788 = true := by kernel_rfl
/-- linkboy/wheel.Wheel.tick -/
theorem qwr794 : memoRuns Try.prog qwt794 100000 60 64 qwa794 qwb794 qwv794 qwc794 = true := by kernel_rfl
/-- linkboy/wheel.Wheel.tick -/
theorem qwr800 : memoRuns Try.prog qwt800 100000 60 64 qwa800 qwb800 qwv800 qwc800 = true := by kernel_rfl
/-- linkboy/wheel.Wheel.tick -/
theorem qwr806 : memoRuns Try.prog qwt806 100000 60 64 qwa806 qwb806 qwv806 qwc806 = true := by kernel_rfl
/-- linkboy/wheel.Wheel.tick -/
theorem qwr812 : memoRuns Try.prog qwt812 100000 60 64 qwa812 qwb812 qwv812 qwc812 = true := by kernel_rfl
/-- linkboy/wheel.Wheel.tick -/
theorem qwr818 : memoRuns Try.prog qwt818 100000 60 64 qwa818 qwb818 qwv818 qwc818 = true := by kernel_rfl
/-- linkboy/wheel.Wheel.tick -/
theorem qwr824 : memoRuns Try.prog qwt824 100000 60 64 qwa824 qwb824 qwv824 qwc824 = true := by kernel_rfl
/-- linkboy/wheel.Wheel.tick -/
theorem qwr830 : memoRuns Try.prog qwt830 100000 60 64 qwa830 qwb830 qwv830 qwc830 = true := by kernel_rfl
/-- linkboy/wheel.Wheel.tick -/
theorem qwr836 : memoRuns Try.prog qwt836 100000 60 64 qwa836 qwb836 qwv836 qwc836 = true := by kernel_rfl
/-- linkboy/wheel.Wheel.tick -/
theorem qwr842 : memoRuns Try.prog qwt842 100000 60 64 qwa842 qwb842 qwv842 qwc842 = true := by kernel_rfl
/-- linkboy/wheel.Wheel.tick -/
theorem qwr848 : memoRuns Try.prog qwt848 100000 60 64 qwa848 qwb848 qwv848 qwc848 = true := by kernel_rfl
/-- linkboy/wheel.Wheel.tick -/
theorem qwr854 : memoRuns Try.prog qwt854 100000 60 64 qwa854 qwb854 qwv854 qwc854 = true := by kernel_rfl
/-- linkboy/wheel.Wheel.tick -/
theorem qwr860 : memoRuns Try.prog qwt860 100000 60 64 qwa860 qwb860 qwv860 qwc860 = true := by kernel_rfl
/-- linkboy/wheel.Wheel.tick -/
theorem qwr866 : memoRuns Try.prog qwt866 100000 60 64 qwa866 qwb866 qwv866 qwc866 = true := by kernel_rfl
/-- linkboy/wheel.Wheel.tick -/
theorem qwr872 : memoRuns Try.prog qwt872 100000 60 64 qwa872 qwb872 qwv872 qwc872 = true := by kernel_rfl
/-- linkboy/wheel.Wheel.tick -/
theorem qwr879 : memoRuns Try.prog qwt879 100000 60 64 qwa879 qwb879 qwv879 qwc879 = true := by kernel_rfl
/-- linkboy/wheel.Wheel.tick -/
theorem qwr885 : memoRuns Try.prog qwt885 100000 60 64 qwa885 qwb885 qwv885 qwc885 = true := by kernel_rfl
/-- linkboy/wheel.Wheel.tick -/
theorem qwr891 : memoRuns Try.prog qwt891 100000 60 64 qwa891 qwb891 qwv891 qwc891 = true := by kernel_rfl
/-- linkboy/wheel.Wheel.tick -/
theorem qwr897 : memoRuns Try.prog qwt897 100000 60 64 qwa897 qwb897 qwv897 qwc897 = true := by kernel_rfl
/-- linkboy/wheel.Wheel.tick -/
theorem qwr903 : memoRuns Try.prog qwt903 100000 60 64 qwa903 qwb903 qwv903 qwc903 = true := by kernel_rfl
/-- linkboy/wheel.Wheel.tick -/
theorem qwr909 : memoRuns Try.prog qwt909 100000 60 64 qwa909 qwb909 qwv909 qwc909 = true := by kernel_rfl
end Go.Proofs.Ytcbpdjikdohegaa
